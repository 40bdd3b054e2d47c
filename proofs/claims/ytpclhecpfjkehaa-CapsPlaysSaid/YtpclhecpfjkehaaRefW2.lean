/- janusref08: Env, May, covers, free, Get, Has. -/
import Derived.Test.YtpclhecpfjkehaaRefW1
namespace Go.Proofs.Ytpclhecpfjkehaa
open Go.RowKit

theorem renv (e : Int) (w : World) :
    Calls Try.prog 81 #[.int .i64 e] w fun r w' => r = .returned (.bool (isB e)) ∧ w = w' := by
  go_enter Try.func81, Try.ntmps81
  go_wp2
  all_goals go_ret
  all_goals (refine ⟨?_, rfl⟩; simp [isB]; omega)

set_option maxHeartbeats 400000 in
theorem rmay (a b c d : Int) (w : World) :
    Calls Try.prog 82 #[.agg #[.int .i64 a, .int .i64 b, .int .i64 c, .int .i64 d]] w fun r w' =>
      r = .returned (.bool (mayB ⟨a, b, c, d⟩)) ∧ Below w.heap.size w w' := by
  go_enter Try.func82, Try.ntmps82
  go_wp2
  all_goals go_ret
  all_goals (refine ⟨ret_bool ?_, (Below.refl _ _).alloc (Nat.le_refl _) _⟩)
  all_goals (simp [mayB]; try omega)

theorem andNot_sub (d r : Int) (hd : 0 ≤ d ∧ d ≤ 7) (hr : 0 ≤ r ∧ r ≤ 7) : (bits BinOp.andNot IntKind.i64 r d == 0) = subB r d := by
  rcases int07 hd with rfl | rfl | rfl | rfl | rfl | rfl | rfl | rfl <;> rcases int07 hr with rfl | rfl | rfl | rfl | rfl | rfl | rfl | rfl <;> decide

theorem rcovers (a b c d k i r : Int) (w : World) (hb : 0 ≤ b ∧ b ≤ 1048576) (_ : 1 ≤ c ∧ c ≤ 1048576) (hd : 1 ≤ d ∧ d ≤ 7) (hr : 0 ≤ r ∧ r ≤ 7) (hi : i ≤ 9223372036854775807) :
    Calls Try.prog 59 #[.agg #[.int .i64 a, .int .i64 b, .int .i64 c, .int .i64 d], .int .i64 k, .int .i64 i, .int .i64 r] w fun e w' =>
      e = .returned (.bool (coverB ⟨a, b, c, d⟩ k i r)) ∧ Below w.heap.size w w' := by
  go_enter Try.func59, Try.ntmps59
  go_wp2
  all_goals go_ret
  all_goals (refine ⟨ret_bool ?_, (Below.refl _ _).alloc (Nat.le_refl _) _⟩)
  · rw [andNot_sub d r ⟨by omega, by omega⟩ hr]
    have h1 : i < b + c := by omega
    simp [coverB, *]
  all_goals (simp [coverB, *]; try omega)

theorem rfree {w : World} {x : Nat} {M : CM} {F : Nat → Prop} (h : RCaps w x M F) (e : Int) :
    Calls Try.prog 95 #[.pointer (some ⟨x, 0, none⟩), .int .i64 e] w fun y w' =>
      y = .returned (.int .i64 (freeE M.L e : Nat)) ∧ w = w' := by
  have hfi := fun s : Int => rfind h e s
  by_cases hf : freeE M.L e = 0
  · have hz := freeE_zero hf
    rw [hf]
    go_enter Try.func95, Try.ntmps95
    go_wp2
    go_loop [5] (fun t => ∃ k : Nat, 1 ≤ k ∧ k ≤ 65 ∧ t = .int .i64 k) (fun t => 66 - (intOf t).toNat)
    case atStart => exact ⟨1, by omega, by omega, rfl⟩
    case round =>
      obtain ⟨k, hk1, hk2, rfl⟩ := hrel
      have hk := hfi (k : Int)
      by_cases hlt : k ≤ 64
      · obtain ⟨c, hc⟩ := hz k hk1 hlt
        clear hfi hz
        go_wp2_with fail
        refine hk.mono ?_
        rintro y w1 ⟨⟨i, rfl, hfa⟩, rfl⟩
        have hi : 0 ≤ i := by
          rcases hfa with ⟨_, h1⟩ | ⟨j, d, h1, _⟩
          · rw [h1] at hc; cases hc
          · omega
        clear hk hfa hc
        go_wp2
        go_round
        case rel => exact ⟨k + 1, by omega, by omega, by go_num⟩
        case measure => simp [intOf]; omega
      · clear hfi hz hk
        go_wp2
        go_ret
        exact ⟨rfl, rfl⟩
  · obtain ⟨h1, h2, h3, h4⟩ := freeE_pos hf
    obtain ⟨fr, hfr⟩ : ∃ fr, fr = freeE M.L e := ⟨_, rfl⟩
    rw [← hfr] at h1 h2 h3 h4 ⊢
    clear hfr hf
    go_enter Try.func95, Try.ntmps95
    go_wp2
    go_loop [5] (fun t => ∃ k : Nat, 1 ≤ k ∧ k ≤ fr ∧ t = .int .i64 k) (fun t => 66 - (intOf t).toNat)
    case atStart => exact ⟨1, by omega, by omega, rfl⟩
    case round =>
      obtain ⟨k, hk1, hk2, rfl⟩ := hrel
      have hk := hfi (k : Int)
      by_cases hlt : k < fr
      · obtain ⟨c, hc⟩ := h4 k hk1 hlt
        clear hfi h4 h3
        go_wp2_with fail
        refine hk.mono ?_
        rintro y w1 ⟨⟨i, rfl, hfa⟩, rfl⟩
        have hi : 0 ≤ i := by
          rcases hfa with ⟨_, h1⟩ | ⟨j, d, h1, _⟩
          · rw [h1] at hc; cases hc
          · omega
        clear hk hfa hc
        go_wp2
        go_round
        case rel => exact ⟨k + 1, by omega, by omega, by go_num⟩
        case measure => simp [intOf]; omega
      · have hkf : k = fr := by omega
        subst hkf
        clear hfi h4
        go_wp2_with fail
        refine hk.mono ?_
        rintro y w1 ⟨⟨i, rfl, hfa⟩, rfl⟩
        have hi : i < 0 := by
          rcases hfa with ⟨h5, _⟩ | ⟨j, d, _, _, h5⟩
          · omega
          · rw [h3] at h5; cases h5
        clear hk hfa h3
        go_wp2
        go_ret
        exact ⟨rfl, rfl⟩

theorem rget {w : World} {x : Nat} {M : CM} {F : Nat → Prop} (h : RCaps w x M F) (e s : Int) :
    Calls Try.prog 17 #[.pointer (some ⟨x, 0, none⟩), .int .i64 e, .int .i64 s] w fun r w' =>
      r = .returned (.tuple #[.agg (getA (findE M.L e s)), .bool (findE M.L e s).isSome]) ∧ Below w.heap.size w w' := by
  have hb0 : Below w.heap.size w (w.alloc (.cells #[.int .i64 0, .int .i64 0, .int .i64 0, .int .i64 0] 30)) := (Below.refl _ _).alloc (Nat.le_refl _) _
  have hk := rfind (h.below hb0) e s
  obtain ⟨A, cap, h0, _, hlen, hrow⟩ := h.reads
  have hx := h.lt x h.fx
  clear h
  go_enter Try.func17, Try.ntmps17
  go_wp2_with fail
  refine hk.mono ?_
  rintro y w1 ⟨⟨i, rfl, hfa⟩, rfl⟩
  clear hk
  rcases hfa with ⟨rfl, hf⟩ | ⟨k, c, rfl, hc, hf⟩
  · have HF := Lib.hid hf
    clear hf hrow
    go_wp2
    refine bodyPost_ret (v := .tuple #[.agg #[.int .i64 0, .int .i64 0, .int .i64 0, .int .i64 0], .bool false]) (by simp [results, Try.results17, go_sem]) rfl ⟨by rw [HF.out]; rfl, (Below.refl _ _).alloc (Nat.le_refl _) _⟩
  · obtain ⟨g, rfl, hg, _, hcell⟩ := hrow k c hc
    have hk1 : k < M.L.length := (List.getElem?_eq_some_iff.1 hc).1
    have r4 := hcell 4 _ (by omega) rfl
    have r5 := hcell 5 _ (by omega) rfl
    have r6 := hcell 6 _ (by omega) rfl
    have r7 := hcell 7 _ (by omega) rfl
    have HF := Lib.hid hf
    clear hf hrow hcell hc
    go_wp2
    refine bodyPost_ret (v := .tuple #[.agg (capA c.x), .bool true]) (by simp [results, Try.results17, go_sem, capA]) rfl ⟨by rw [HF.out]; rfl, (Below.refl _ _).alloc (Nat.le_refl _) _⟩

end Go.Proofs.Ytpclhecpfjkehaa
