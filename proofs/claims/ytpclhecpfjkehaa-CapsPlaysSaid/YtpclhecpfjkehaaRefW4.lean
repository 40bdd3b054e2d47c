/- janusref08: put, Add, Give. -/
import Derived.Test.YtpclhecpfjkehaaRefW3
namespace Go.Proofs.Ytpclhecpfjkehaa
open Go.RowKit

theorem rput_full (x : Nat) (e of a b c d : Int) (w : World) (hfree : ∀ w1 : World, Below w.heap.size w w1 → Calls Try.prog 95 #[.pointer (some ⟨x, 0, none⟩), .int .i64 e] w1 fun y w' => y = .returned (.int .i64 0) ∧ w1 = w') :
    Calls Try.prog 83 #[.pointer (some ⟨x, 0, none⟩), .int .i64 e, .int .i64 of, .agg #[.int .i64 a, .int .i64 b, .int .i64 c, .int .i64 d]] w fun y w' =>
      y = .returned (.tuple #[.int .i64 0, .int .i64 105]) ∧ Below w.heap.size w w' := by
  have hb0 : Below w.heap.size w (w.alloc (.cells #[.int .i64 a, .int .i64 b, .int .i64 c, .int .i64 d] 30)) := (Below.refl _ _).alloc (Nat.le_refl _) _
  have hk := hfree _ hb0
  clear hfree
  go_enter Try.func83, Try.ntmps83
  go_wp2_with fail
  refine hk.mono ?_
  rintro y w1 ⟨rfl, rfl⟩
  clear hk
  go_wp2
  go_ret2
  exact ⟨rfl, hb0⟩

theorem rput {w : World} {x : Nat} {M : CM} {F : Nat → Prop} (h : RCaps w x M F) (hlast : M.last ≤ 1000000000) (e : Int) (he : isB e = true) (c : Cap) (hc : mayB c = true) (of : Int) (ho : of = 0 ∨ ∃ d ∈ M.L, d.no = of) :
    Calls Try.prog 83 #[.pointer (some ⟨x, 0, none⟩), .int .i64 e, .int .i64 of, .agg #[.int .i64 c.kind, .int .i64 c.id, .int .i64 c.len, .int .i64 c.rights]] w fun y w' =>
      y = .returned (.tuple #[.int .i64 (M.put e c of).1.1, .int .i64 (M.put e c of).1.2]) ∧ Mod F w w' ∧ RCaps w' x (M.put e c of).2 (New F w w') := by
  have hwf := h.wf.put he hc ho
  by_cases hf : freeE M.L e = 0
  · have hput : M.put e c of = (((0 : Int), (105 : Int)), M) := by unfold CM.put; rw [if_pos hf]
    rw [hput]
    refine (rput_full x e of _ _ _ _ w fun w1 hb => ?_).mono ?_
    · have := rfree (h.below hb) e
      rw [hf] at this
      exact this
    · rintro y w' ⟨rfl, hb⟩
      exact ⟨rfl, Mod.of_below hb, h.new hb⟩
  · obtain ⟨h1, h2, _, _⟩ := freeE_pos hf
    have hput : M.put e c of = ((((freeE M.L e : Nat) : Int), (0 : Int)), (⟨M.L ++ [⟨M.last + 1, of, e, (freeE M.L e : Nat), c⟩], M.last + 1⟩ : CM)) := by
      unfold CM.put; rw [if_neg hf]
    rw [hput] at hwf ⊢
    have hlen := len_le_780 h.wf (bs := M.L) (fun c hc => hc) h.wf.nd
    have h' := h
    obtain ⟨q1, q2, q3, v, q4, q5, q6⟩ := h'
    obtain ⟨A, cap, rfl⟩ : ∃ A cap, v = .slice A M.L.length cap := by
      rcases q5.2 with ⟨hv, h0⟩ | ⟨g, cap, cur, hv, _⟩
      · exact ⟨none, 0, by rw [hv, h0]⟩
      · exact ⟨_, _, hv⟩
    refine (rput_room x A M.L.length cap (freeE M.L e) M.last e of _ _ _ _ (rcells M.L) w h.wf.last hlast hlen q4
      (Src.of_own q5) (rcells_one M.L) ?_ (fun w1 hb => rfree (h.below hb) e) h1 h2).mono ?_
    · rintro g o rfl rfl
      rcases q5.2 with ⟨hv, _⟩ | ⟨g', cap', cur, hv, _, hh, _⟩
      · cases hv
      · injection hv with hv _ _
        injection hv with hv
        injection hv with hv _
        subst hv
        rw [q4] at hh
        injection hh with hh
        injection hh with _ hh
        exact absurd hh (by decide)
    · rintro y w' ⟨rfl, v', W, hm, hown, hc1, hs⟩
      have hvb : ∀ k, v'.ownBlock = some k → w.heap.size ≤ k ∧ k < W.heap.size := fun k hk => hown.lt k hk
      have hm' : Mod F w w' := ((hm.mono (fun i _ hi => by subst hi; exact q3)).setCell (p := ⟨x, 0, none⟩) (fun _ => q3) _).same hs
      have hxl := q2 x q3
      refine ⟨rfl, hm', hwf, fun k hk => New.lt q2 hm'.size k hk, .inl q3, v', ?_, ?_, ?_⟩
      · rw [hs.1, heap_setCell_eq hc1]; rfl
      · have : rcells (M.L ++ [⟨M.last + 1, of, e, (freeE M.L e : Nat), c⟩]) = rcells M.L ++ [.int .i64 (M.last + 1), .int .i64 of, .int .i64 e, .int .i64 (freeE M.L e : Nat), .int .i64 c.kind, .int .i64 c.id, .int .i64 c.len, .int .i64 c.rights] := by
          rw [rcells_append]; rfl
        show w'.ownsRow 0 _ 8 v' (M.L ++ [_]).length (rcells (M.L ++ [_]))
        rw [this, List.length_append]
        have ho' := own_le hown (Nat.zero_le _)
        refine own_mod ho' (G := fun k => k = x) (((Mod.refl (fun k => k = x) W).setCell (p := ⟨x, 0, none⟩) (fun _ => rfl) _).same hs) ?_
        intro k hk hkx
        have := hvb k hk
        omega
      · intro k hk
        have := hvb k hk
        exact .inr ⟨this.1, by rw [hs.1]; simpa [World.setCell] using this.2⟩

end Go.Proofs.Ytpclhecpfjkehaa
