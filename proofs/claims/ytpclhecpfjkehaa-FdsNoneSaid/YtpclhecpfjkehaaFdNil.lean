/- fds: descriptors that are none (a nil receiver). -/
import Derived.Test.YtpclhecpfjkehaaFdL0
namespace Go.Proofs.Ytpclhecpfjkehaa
open Go.RowKit

theorem fopen_nil (p a b c : Int) (d : Bool) (e : Int) (w : World) :
    Calls Try.prog 25 #[.pointer none, .int .i64 p, .agg #[.int .i64 a, .int .i64 b, .int .i64 c, .bool d, .int .i64 e]] w fun y w' =>
      y = .returned (.tuple #[.int .i64 0, .int .i64 9]) ∧ Below w.heap.size w w' := by
  have ha := fat_nil p 0 (w.alloc (.cells #[.int .i64 a, .int .i64 b, .int .i64 c, .bool d, .int .i64 e] 56))
  go_enter Try.func25, Try.ntmps25
  go_wp2_with fail
  refine ha.mono ?_
  rintro y w' ⟨rfl, rfl⟩
  clear ha
  go_wp2
  go_ret2
  exact ⟨rfl, (Below.refl _ _).alloc (Nat.le_refl _) _⟩

theorem fdup_nil (p d : Int) (w : World) :
    Calls Try.prog 26 #[.pointer none, .int .i64 p, .int .i64 d] w fun y w' => y = .returned (.tuple #[.int .i64 0, .int .i64 9]) ∧ w = w' := by
  have hfi := ffile_nil p d w
  go_enter Try.func26, Try.ntmps26
  go_wp2_with fail
  refine hfi.mono ?_
  rintro y w' ⟨rfl, rfl⟩
  clear hfi
  go_wp2
  go_ret2
  exact ⟨rfl, rfl⟩

theorem fget_nil (p d : Int) (w : World) :
    Calls Try.prog 30 #[.pointer none, .int .i64 p, .int .i64 d] w fun r w' => r = .returned (.tuple #[ftA FT.zero, .int .i64 9]) ∧ Below w.heap.size w w' := by
  have hfi := ffile_nil p d (w.alloc (.cells #[.int .i64 0, .int .i64 0, .int .i64 0, .bool false, .int .i64 0] 56))
  go_enter Try.func30, Try.ntmps30
  go_wp2_with fail
  refine hfi.mono ?_
  rintro r w' ⟨rfl, rfl⟩
  clear hfi
  go_wp2
  exact bodyPost_ret (v := .tuple #[.agg #[.int .i64 0, .int .i64 0, .int .i64 0, .bool false, .int .i64 0], .int .i64 9]) (by simp [results, Try.results30, go_sem]) rfl ⟨rfl, (Below.refl _ _).alloc (Nat.le_refl _) _⟩

theorem fseek_nil (p d o : Int) (w : World) :
    Calls Try.prog 32 #[.pointer none, .int .i64 p, .int .i64 d, .int .i64 o] w fun y w' => y = .returned (.int .i64 9) ∧ w = w' := by
  have hfi := ffile_nil p d w
  go_enter Try.func32, Try.ntmps32
  go_wp2_with fail
  refine hfi.mono ?_
  rintro y w' ⟨rfl, rfl⟩
  clear hfi
  go_wp2
  go_ret
  exact ⟨rfl, rfl⟩

theorem fids_nil (k : Int) (w : World) :
    Calls Try.prog 42 #[.pointer none, .int .i64 k] w fun y w' => y = .returned (.slice none 0 0) ∧ w = w' := by
  go_enter Try.func42, Try.ntmps42
  go_wp2
  go_ret
  exact ⟨rfl, rfl⟩

set_option maxRecDepth 100000 in
theorem fgone_nil (p : Int) (w : World) :
    Calls Try.prog 29 #[.pointer none, .int .i64 p] w fun y w' => y = .returned (.slice none 0 0) ∧ Below w.heap.size w w' := by
  go_enter Try.func29, Try.ntmps29
  go_wp2
  go_loopw [5, 9] (fun v t wr => v = .slice none 0 0 ∧ Below w.heap.size w wr ∧ ∃ n : Nat, n ≤ 6 ∧ t = .int .i64 n) (fun _ t _ => 6 - (intOf t).toNat)
  case atStart => exact ⟨rfl, Below.refl _ _, 0, by omega, rfl⟩
  case round =>
    obtain ⟨rfl, hbr, n, hn, rfl⟩ := hrel
    by_cases hlt : n < 6
    · have hcall := fclose_nil p n wr
      simp only [ftA, FT.zero, FD.zero] at hcall
      go_wp2_with fail
      refine hcall.mono ?_
      rintro y w1 ⟨rfl, hb⟩
      have hb2 := (hbr.trans (hb.mono hbr.size)).alloc (hbr.trans (hb.mono hbr.size)).size (.cells #[.int .i64 0, .int .i64 0, .int .i64 0, .bool false, .int .i64 0] 56)
      clear hcall hbr hb
      go_wp2
      go_roundw
      case rel => exact ⟨rfl, hb2, n + 1, by omega, by go_num⟩
      case measure => simp [intOf]; omega
    · have hkn : n = 6 := by omega
      subst hkn
      go_wp2
      go_ret
      exact ⟨rfl, hbr⟩

set_option maxRecDepth 100000 in
set_option maxHeartbeats 1000000 in
theorem fnone_walk (k p f n a b c : Int) (d : Bool) (e : Int) (w : World) :
    Calls Try.prog 8 #[.agg #[.int .i64 k, .int .i64 p, .int .i64 f, .int .i64 n, .int .i64 a, .int .i64 b, .int .i64 c, .bool d, .int .i64 e]] w fun y w' =>
      y = .returned (.bool true) ∧ Below w.heap.size w w' := by
  have hlay : ∀ wx : World, Below (w.heap.size + 1) (w.alloc (.cells #[.int .i64 k, .int .i64 p, .int .i64 f, .int .i64 n, .int .i64 a, .int .i64 b, .int .i64 c, .bool d, .int .i64 e] 58)) wx →
      (wx.cell? ⟨w.heap.size, 1, none⟩ = some (.int .i64 p) ∧ wx.cell? ⟨w.heap.size, 2, none⟩ = some (.int .i64 f) ∧ wx.cell? ⟨w.heap.size, 3, none⟩ = some (.int .i64 n)) := by
    intro wx hb
    refine ⟨?_, ?_, ?_⟩ <;> (rw [hb.cell (by simp)]; simp)
  go_enter Try.func8, Try.ntmps8
  go_wp2_with fail
  refine (fopen_nil _ _ _ _ _ _ _).mono ?_
  rintro y w1 ⟨rfl, hb1⟩
  have HB : Below (w.heap.size + 1) (w.alloc (.cells #[.int .i64 k, .int .i64 p, .int .i64 f, .int .i64 n, .int .i64 a, .int .i64 b, .int .i64 c, .bool d, .int .i64 e] 58)) w1 := by simpa using hb1
  obtain ⟨l1, l2, l3⟩ := hlay w1 HB
  clear hb1
  go_wp2_with fail
  refine (fdup_nil _ _ _).mono ?_
  rintro y w' ⟨rfl, rfl⟩
  go_wp2_with fail
  refine (fclose_nil _ _ _).mono ?_
  rintro y w2 ⟨rfl, hb2⟩
  simp only [ftA, FT.zero, FD.zero]
  have HB1 := HB.trans (hb2.mono (by have := HB.size; simp at this; omega))
  have HB2 := HB1.alloc (by have := HB1.size; simp at this; omega) (.cells #[.int .i64 0, .int .i64 0, .int .i64 0, .bool false, .int .i64 0] 56)
  have hlt2 : w.heap.size < w2.heap.size := by have := HB1.size; simp at this; omega
  have hz2 : w.heap.size + 1 ≤ (w2.alloc (.cells #[.int .i64 0, .int .i64 0, .int .i64 0, .bool false, .int .i64 0] 56)).heap.size := by simp; omega
  clear l1 l2 l3 hb2 HB HB1
  obtain ⟨l1, l2, l3⟩ := hlay _ HB2
  go_wp2_with fail
  refine (fget_nil _ _ _).mono ?_
  rintro y w3 ⟨rfl, hb3⟩
  simp only [ftA, FT.zero, FD.zero]
  have HB1 := HB2.trans (hb3.mono hz2)
  have HB3 := HB1.alloc (by have := HB1.size; simp at this; omega) (.cells #[.int .i64 0, .int .i64 0, .int .i64 0, .bool false, .int .i64 0] 56)
  have hlt3 : w.heap.size < w3.heap.size := by have := HB1.size; simp at this; omega
  have hz3 : w.heap.size + 1 ≤ (w3.alloc (.cells #[.int .i64 0, .int .i64 0, .int .i64 0, .bool false, .int .i64 0] 56)).heap.size := by simp; omega
  clear l1 l2 l3 hb3 HB2 HB1
  obtain ⟨l1, l2, l3⟩ := hlay _ HB3
  go_wp2_with fail
  refine (ffork_nil _ _ _).mono ?_
  rintro y w' ⟨rfl, rfl⟩
  go_wp2_with fail
  refine (fseek_nil _ _ _ _).mono ?_
  rintro y w' ⟨rfl, rfl⟩
  go_wp2_with fail
  refine (fgone_nil _ _).mono ?_
  rintro y w4 ⟨rfl, hb4⟩
  have HB4 := HB3.trans (hb4.mono hz3)
  clear l1 l2 l3 hb4 HB3
  obtain ⟨l1, l2, l3⟩ := hlay _ HB4
  go_wp2_with fail
  refine (fleft_zero none p w4 (fun d _ => fat_nil p d w4)).mono ?_
  rintro y w' ⟨rfl, rfl⟩
  go_wp2_with fail
  refine (fids_nil _ _).mono ?_
  rintro y w' ⟨rfl, rfl⟩
  go_wp2_with fail
  refine (fencode_nil _).mono ?_
  rintro y w' ⟨rfl, rfl⟩
  clear l1 l2 l3 hlay
  go_wp2_with fail
  refine (awakeF _).mono ?_
  rintro y w6 ⟨rfl, hb6⟩
  have HB6 := HB4.trans (hb6.mono (by have := HB4.size; simp at this; omega))
  clear hb6 HB4
  go_wp2
  go_ret
  exact ⟨rfl, ((Below.refl _ _).alloc (Nat.le_refl _) _).trans (HB6.mono (by omega))⟩

end Go.Proofs.Ytpclhecpfjkehaa
