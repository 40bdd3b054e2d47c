/- caps: capabilities that are none (a nil receiver). -/
import Derived.Test.YtmhnnfcbpnofhaaCapsL0
namespace Go.Proofs.Ytmhnnfcbpnofhaa
open Go.RowKit

theorem add_nil (e a b c d : Int) (w : World) :
    Calls Try.prog 15 #[.pointer none, .int .i64 e, .agg #[.int .i64 a, .int .i64 b, .int .i64 c, .int .i64 d]] w fun y w' =>
      y = .returned (.tuple #[.int .i64 0, .int .i64 101]) ∧ Below w.heap.size w w' := by
  go_enter Try.func15, Try.ntmps15
  go_wp2
  go_ret2
  exact ⟨rfl, (Below.refl _ _).alloc (Nat.le_refl _) _⟩

theorem give_nil (e s t r : Int) (w : World) :
    Calls Try.prog 19 #[.pointer none, .int .i64 e, .int .i64 s, .int .i64 t, .int .i64 r] w fun y w' =>
      y = .returned (.tuple #[.int .i64 0, .int .i64 101]) ∧ w = w' := by
  go_enter Try.func19, Try.ntmps19
  go_wp2
  go_ret2
  exact ⟨rfl, rfl⟩

theorem drop_nil (e s : Int) (w : World) :
    Calls Try.prog 18 #[.pointer none, .int .i64 e, .int .i64 s] w fun y w' =>
      y = .returned (.tuple #[.bool false, .int .i64 101]) ∧ w = w' := by
  go_enter Try.func18, Try.ntmps18
  go_wp2
  go_ret2
  exact ⟨rfl, rfl⟩

theorem revoke_nil (e s : Int) (w : World) :
    Calls Try.prog 20 #[.pointer none, .int .i64 e, .int .i64 s] w fun y w' =>
      y = .returned (.tuple #[.int .i64 0, .int .i64 101]) ∧ w = w' := by
  go_enter Try.func20, Try.ntmps20
  go_wp2
  go_ret2
  exact ⟨rfl, rfl⟩

theorem get_nil (e s : Int) (w : World) :
    Calls Try.prog 21 #[.pointer none, .int .i64 e, .int .i64 s] w fun y w' =>
      y = .returned (.tuple #[.agg #[.int .i64 0, .int .i64 0, .int .i64 0, .int .i64 0], .bool false]) ∧ Below w.heap.size w w' := by
  go_enter Try.func21, Try.ntmps21
  go_wp2_with (go_at_call 69; refine (at_nil _ _ _).mono ?_; rintro r w' ⟨rfl, rfl⟩)
  exact bodyPost_ret (v := .tuple #[.agg #[.int .i64 0, .int .i64 0, .int .i64 0, .int .i64 0], .bool false]) (by simp [results, Try.results21, go_sem]) rfl ⟨rfl, (Below.refl _ _).alloc (Nat.le_refl _) _⟩

set_option maxRecDepth 100000 in
theorem holders_nil (k i : Int) (w : World) :
    Calls Try.prog 23 #[.pointer none, .int .i64 k, .int .i64 i] w fun y w' =>
      y = .returned (.slice none 0 0) ∧ Below w.heap.size w w' := by
  go_enter Try.func23, Try.ntmps23
  go_wp2
  go_loopw [7, 9] (fun v t wr => v = .slice none 0 0 ∧ Below w.heap.size w wr ∧ ∃ n : Nat, n ≤ 12 ∧ t = .int .i64 n) (fun _ t _ => 12 - (intOf t).toNat)
  case atStart => exact ⟨rfl, Below.refl _ _, 0, by omega, rfl⟩
  case round =>
    obtain ⟨rfl, hbr, n, hn, rfl⟩ := hrel
    by_cases hlt : n < 12
    · have hcall := has_nil n k i 0 wr
      go_wp2_with fail
      refine hcall.mono ?_
      rintro y w1 ⟨rfl, hb⟩
      have hb2 := hbr.trans (hb.mono hbr.size)
      clear hcall hbr hb
      go_wp2
      go_roundw
      case rel => exact ⟨rfl, hb2, n + 1, by omega, by go_num⟩
      case measure => simp [intOf]; omega
    · have hkn : n = 12 := by omega
      subst hkn
      go_wp2
      go_ret
      exact ⟨rfl, hbr⟩

def deedCells (k e s t r a b c d : Int) : Array Value := #[.int .i64 k, .int .i64 e, .int .i64 s, .int .i64 t, .int .i64 r, .int .i64 a, .int .i64 b, .int .i64 c, .int .i64 d]

set_option maxRecDepth 100000 in
set_option maxHeartbeats 1000000 in
theorem none_walk (k e s t r a b c d : Int) (w : World) :
    Calls Try.prog 6 #[.agg #[.int .i64 k, .int .i64 e, .int .i64 s, .int .i64 t, .int .i64 r, .int .i64 a, .int .i64 b, .int .i64 c, .int .i64 d]] w fun y w' =>
      y = .returned (.bool true) ∧ Below w.heap.size w w' := by
  have hlay : ∀ wx : World, Below (w.heap.size + 1) (w.alloc (.cells #[.int .i64 k, .int .i64 e, .int .i64 s, .int .i64 t, .int .i64 r, .int .i64 a, .int .i64 b, .int .i64 c, .int .i64 d] 36)) wx →
      (wx.cell? ⟨w.heap.size, 1, none⟩ = some (.int .i64 e) ∧ wx.cell? ⟨w.heap.size, 2, none⟩ = some (.int .i64 s) ∧ wx.cell? ⟨w.heap.size, 3, none⟩ = some (.int .i64 t) ∧ wx.cell? ⟨w.heap.size, 4, none⟩ = some (.int .i64 r) ∧
       wx.cell? ⟨w.heap.size, 5, none⟩ = some (.int .i64 a) ∧ wx.cell? ⟨w.heap.size, 6, none⟩ = some (.int .i64 b) ∧ wx.cell? ⟨w.heap.size, 7, none⟩ = some (.int .i64 c) ∧ wx.cell? ⟨w.heap.size, 8, none⟩ = some (.int .i64 d)) := by
    intro wx hb
    refine ⟨?_, ?_, ?_, ?_, ?_, ?_, ?_, ?_⟩ <;> (rw [hb.cell (by simp)]; simp)
  go_enter Try.func6, Try.ntmps6
  go_wp2_with fail
  refine (add_nil _ _ _ _ _ _).mono ?_
  rintro y w1 ⟨rfl, hb1⟩
  have HB : Below (w.heap.size + 1) (w.alloc (.cells #[.int .i64 k, .int .i64 e, .int .i64 s, .int .i64 t, .int .i64 r, .int .i64 a, .int .i64 b, .int .i64 c, .int .i64 d] 36)) w1 := by simpa using hb1
  obtain ⟨l1, l2, l3, l4, l5, l6, l7, l8⟩ := hlay w1 HB
  clear hb1
  go_wp2_with (first | (go_at_call 19; refine (give_nil _ _ _ _ _).mono ?_; rintro y w' ⟨rfl, rfl⟩) | (go_at_call 18; refine (drop_nil _ _ _).mono ?_; rintro y w' ⟨rfl, rfl⟩) | (go_at_call 20; refine (revoke_nil _ _ _).mono ?_; rintro y w' ⟨rfl, rfl⟩))
  refine (get_nil _ _ _).mono ?_
  rintro y w2 ⟨rfl, hb2⟩
  have HB2 := HB.trans (hb2.mono (by have := HB.size; simp at this; omega))
  clear l1 l2 l3 l4 l5 l6 l7 l8 hb2 HB
  obtain ⟨l1, l2, l3, l4, l5, l6, l7, l8⟩ := hlay w2 HB2
  have hlt2 : w.heap.size < w2.heap.size := by have := HB2.size; simp at this; omega
  go_wp2_with fail
  refine (gone_nil _ _).mono ?_
  rintro y w3 ⟨rfl, hw3⟩
  have HB3 : Below (w.heap.size + 1) (w.alloc (.cells #[.int .i64 k, .int .i64 e, .int .i64 s, .int .i64 t, .int .i64 r, .int .i64 a, .int .i64 b, .int .i64 c, .int .i64 d] 36)) w3 := by rw [← hw3]; exact HB2.alloc (by have := HB2.size; simp at this; omega) _
  clear l1 l2 l3 l4 l5 l6 l7 l8 hw3 HB2
  obtain ⟨l1, l2, l3, l4, l5, l6, l7, l8⟩ := hlay w3 HB3
  go_wp2_with fail
  refine (has_nil _ _ _ _ _).mono ?_
  rintro y w4 ⟨rfl, hb4⟩
  have HB4 := HB3.trans (hb4.mono (by have := HB3.size; simp at this; omega))
  clear l1 l2 l3 l4 l5 l6 l7 l8 hb4 HB3
  obtain ⟨l1, l2, l3, l4, l5, l6, l7, l8⟩ := hlay w4 HB4
  go_wp2_with fail
  refine (holders_nil _ _ _).mono ?_
  rintro y w5 ⟨rfl, hb5⟩
  have HB5 := HB4.trans (hb5.mono (by have := HB4.size; simp at this; omega))
  clear l1 l2 l3 l4 l5 l6 l7 l8 hb5 HB4 hlay
  go_wp2_with fail
  refine (awake_any _).mono ?_
  rintro y w6 ⟨rfl, hb6⟩
  have HB6 := HB5.trans (hb6.mono (by have := HB5.size; simp at this; omega))
  clear hb6 HB5
  go_wp2
  go_ret
  exact ⟨rfl, ((Below.refl _ _).alloc (Nat.le_refl _) _).trans (HB6.mono (by omega))⟩

end Go.Proofs.Ytmhnnfcbpnofhaa
