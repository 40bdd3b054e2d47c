/- Both structures beside each other: the deeds of CapsPlays; januslaw08.do. -/
import Derived.Test.YtpclhecpfjkehaaRefW11
namespace Go.Proofs.Ytpclhecpfjkehaa
open Go.RowKit

theorem rrevoke {w : World} {x : Nat} {M : CM} {F : Nat → Prop} (h : RCaps w x M F) (e s : Int) :
    Calls Try.prog 52 #[.pointer (some ⟨x, 0, none⟩), .int .i64 e, .int .i64 s] w fun y w' =>
      y = .returned (.tuple #[.int .i64 (M.revoke e s).1.1, .int .i64 (M.revoke e s).1.2]) ∧ Mod F w w' ∧ RCaps w' x (M.revoke e s).2 (New F w w') := by
  cases hf : findE M.L e s with
  | none =>
    have hM : M.revoke e s = ((0, 104), M) := by unfold CM.revoke; rw [hf]
    rw [hM]
    have hk := rfind h e s
    have H : Calls Try.prog 52 #[.pointer (some ⟨x, 0, none⟩), .int .i64 e, .int .i64 s] w fun y w' => y = .returned (.tuple #[.int .i64 0, .int .i64 104]) ∧ w = w' := by
      clear h hM
      go_enter Try.func52, Try.ntmps52
      go_wp2_with fail
      refine hk.mono ?_
      rintro y w1 ⟨⟨i, rfl, hfa⟩, rfl⟩
      rcases hfa with ⟨rfl, _⟩ | ⟨k, c, _, _, h5⟩
      · clear hk hf
        go_wp2
        go_ret2
        exact ⟨rfl, rfl⟩
      · rw [hf] at h5; cases h5
    refine H.mono ?_
    rintro y w' ⟨rfl, rfl⟩
    exact ⟨rfl, Mod.refl _ _, h.new (Below.refl _ _)⟩
  | some d =>
    have hM : (M.revoke e s).1 = (revCount M.L d.no, 0) := by unfold CM.revoke; rw [hf]
    rw [hM]
    exact rrevoke_some h e s d hf

/-- One deed. -/
def CM.deed (M : CM) (k e s t r : Int) (X : Cap) : CM :=
  if k = 0 then (M.add e X).2 else if k = 1 then (M.give e s t r).2 else if k = 2 then (M.drop e s).2 else if k = 3 then (M.revoke e s).2 else M.gone e

theorem CM.put_last (M : CM) (e : Int) (x : Cap) (of : Int) : (M.put e x of).2.last ≤ M.last + 1 := by
  unfold CM.put; split <;> simp <;> omega
theorem CM.add_last (M : CM) (e : Int) (x : Cap) : (M.add e x).2.last ≤ M.last + 1 := by
  unfold CM.add; split
  · exact M.put_last e x 0
  · simp; omega
theorem CM.give_last (M : CM) (e s t r : Int) : (M.give e s t r).2.last ≤ M.last + 1 := by
  unfold CM.give
  split
  · simp; omega
  · split
    · split
      · exact M.put_last _ _ _
      · simp; omega
    · simp; omega
theorem CM.drop_last (M : CM) (e s : Int) : (M.drop e s).2.last = M.last := by unfold CM.drop; split <;> rfl
theorem CM.revoke_last (M : CM) (e s : Int) : (M.revoke e s).2.last = M.last := by unfold CM.revoke; split <;> rfl
theorem CM.goneTo_last (M : CM) (e : Int) (k : Nat) : (M.goneTo e k).last = M.last := by
  induction k with
  | zero => rfl
  | succ k ih => unfold CM.goneTo; rw [CM.drop_last, ih]
theorem CM.deed_last (M : CM) (k e s t r : Int) (X : Cap) : (M.deed k e s t r X).last ≤ M.last + 1 := by
  unfold CM.deed
  split
  · exact M.add_last e X
  split
  · exact M.give_last e s t r
  split
  · rw [CM.drop_last]; omega
  split
  · rw [CM.revoke_last]; omega
  · unfold CM.gone; rw [CM.goneTo_last]; omega

/-- The program's capabilities at b and the reference's at x, in blocks of H alone, apart from each other; all made since w0. -/
structure Two (w0 w : World) (b x : Nat) (M N : CM) (H : Nat → Prop) : Prop where
  bel : Below w0.heap.size w0 w
  ge : ∀ k, H k → w0.heap.size ≤ k
  lt : ∀ k, H k → k < w.heap.size
  reps : ∃ F G : Nat → Prop, Caps w b M F ∧ RCaps w x N G ∧ (∀ k, F k → H k) ∧ (∀ k, G k → H k) ∧ ∀ k, F k → ¬ G k

theorem Two.below {w0 w w' : World} {b x : Nat} {M N : CM} {H : Nat → Prop} (h : Two w0 w b x M N H) (hb : Below w.heap.size w w') : Two w0 w' b x M N H := by
  obtain ⟨h1, h2, h3, F, G, h4, h5, h6, h7, h8⟩ := h
  exact ⟨h1.trans (hb.mono h1.size), h2, fun k hk => Nat.lt_of_lt_of_le (h3 k hk) hb.size, F, G, h4.below hb, h5.below hb, h6, h7, h8⟩

theorem Two.same {w0 w w' : World} {b x : Nat} {M N : CM} {H : Nat → Prop} (h : Two w0 w b x M N H) (hs : Same w' w) : Two w0 w' b x M N H :=
  h.below (below_same (Below.refl _ _) hs)

theorem Two.grow {w0 w w' : World} {H : Nat → Prop} (hb : Below w0.heap.size w0 w) (hge : ∀ k, H k → w0.heap.size ≤ k) (hlt : ∀ k, H k → k < w.heap.size) (hm : Mod H w w') :
    Below w0.heap.size w0 w' ∧ (∀ k, New H w w' k → w0.heap.size ≤ k) ∧ ∀ k, New H w w' k → k < w'.heap.size :=
  ⟨hb.trans (hm.below hb.size (fun i hi hF => by have := hge i hF; omega)), fun k hk => hk.elim (hge k) (fun h => by have := hb.size; omega), fun k hk => New.lt hlt hm.size k hk⟩

theorem Two.left {w0 w w' : World} {b x : Nat} {M' N : CM} {H F G : Nat → Prop} (hb : Below w0.heap.size w0 w) (hge : ∀ k, H k → w0.heap.size ≤ k) (hlt : ∀ k, H k → k < w.heap.size)
    (hG : RCaps w x N G) (hFH : ∀ k, F k → H k) (hGH : ∀ k, G k → H k) (hd : ∀ k, F k → ¬ G k) (hm : Mod F w w') (hc : Caps w' b M' (New F w w')) : Mod H w w' ∧ Two w0 w' b x M' N (New H w w') := by
  have hm' : Mod H w w' := hm.mono (fun i _ h => hFH i h)
  obtain ⟨g1, g2, g3⟩ := Two.grow hb hge hlt hm'
  refine ⟨hm', g1, g2, g3, New F w w', G, hc, hG.keep hm (fun k hk hF => hd k hF hk), fun k hk => hk.elim (fun h => .inl (hFH k h)) .inr, fun k hk => .inl (hGH k hk), fun k hk hg => ?_⟩
  rcases hk with hk | ⟨hk, _⟩
  · exact hd k hk hg
  · have := hG.lt k hg; omega

theorem Two.right {w0 w w' : World} {b x : Nat} {M N' : CM} {H F G : Nat → Prop} (hb : Below w0.heap.size w0 w) (hge : ∀ k, H k → w0.heap.size ≤ k) (hlt : ∀ k, H k → k < w.heap.size)
    (hF : Caps w b M F) (hFH : ∀ k, F k → H k) (hGH : ∀ k, G k → H k) (hd : ∀ k, F k → ¬ G k) (hm : Mod G w w') (hc : RCaps w' x N' (New G w w')) : Mod H w w' ∧ Two w0 w' b x M N' (New H w w') := by
  have hm' : Mod H w w' := hm.mono (fun i _ h => hGH i h)
  obtain ⟨g1, g2, g3⟩ := Two.grow hb hge hlt hm'
  refine ⟨hm', g1, g2, g3, F, New G w w', hF.keep hm (fun k hk hG => hd k hk hG), hc, fun k hk => .inl (hFH k hk), fun k hk => hk.elim (fun h => .inl (hGH k h)) .inr, fun k hk hg => ?_⟩
  rcases hg with hg | ⟨hg, _⟩
  · exact hd k hk hg
  · have := hF.lt k hk; omega

/-- A function of each, called one behind the other. -/
theorem Two.both {w0 w : World} {b x : Nat} {M M' : CM} {H : Nat → Prop} (h : Two w0 w b x M M H) (f g : FuncId) (ps : Array Value) (v : Value)
    (hf : ∀ (w : World) (F : Nat → Prop), Caps w b M F → Calls Try.prog f (#[.pointer (some ⟨b, 0, none⟩)] ++ ps) w fun y w' => y = .returned v ∧ Mod F w w' ∧ Caps w' b M' (New F w w'))
    (hg : ∀ (w : World) (F : Nat → Prop), RCaps w x M F → Calls Try.prog g (#[.pointer (some ⟨x, 0, none⟩)] ++ ps) w fun y w' => y = .returned v ∧ Mod F w w' ∧ RCaps w' x M' (New F w w')) :
    Calls Try.prog f (#[.pointer (some ⟨b, 0, none⟩)] ++ ps) w fun y w1 => y = .returned v ∧ Mod H w w1 ∧
      ∀ W, Same W w1 → Calls Try.prog g (#[.pointer (some ⟨x, 0, none⟩)] ++ ps) W fun z w2 => z = .returned v ∧ Mod H w w2 ∧ Two w0 w2 b x M' M' (New H w w2) := by
  obtain ⟨h1, h2, h3, F, G, h4, h5, h6, h7, h8⟩ := h
  refine (hf w F h4).mono ?_
  rintro y w1 ⟨rfl, hm, hc⟩
  obtain ⟨hm1, hT⟩ := Two.left h1 h2 h3 h5 h6 h7 h8 hm hc
  refine ⟨rfl, hm1, fun W hW => ?_⟩
  obtain ⟨k1, k2, k3, F', G', k4, k5, k6, k7, k8⟩ := hT.same hW
  refine (hg W G' k5).mono ?_
  rintro z w2 ⟨rfl, hm2, hc2⟩
  obtain ⟨hm3, hT2⟩ := Two.right k1 k2 k3 k4 k6 k7 k8 hm2 hc2
  have hs1 := hm1.size
  have hWs : W.heap.size = w1.heap.size := by rw [hW.1]
  have hm4 : Mod H w w2 := (hm1.same hW).trans hm3 (fun i hi hn => hn.elim id (fun h => by omega))
  refine ⟨rfl, hm4, hT2.bel, ?_, ?_, ?_⟩
  · intro k hk; rcases hk with hk | ⟨hk, _⟩
    · exact h2 k hk
    · have := h1.size; omega
  · intro k hk; exact New.lt h3 hm4.size k hk
  · obtain ⟨F2, G2, r1, r2, r3, r4, r5⟩ := hT2.reps
    have hin : ∀ k, New (New H w w1) W w2 k → New H w w2 k := by
      rintro k ((hk | ⟨hk, hk2⟩) | ⟨hk, hk2⟩)
      · exact .inl hk
      · exact .inr ⟨hk, by have := hm2.size; omega⟩
      · exact .inr ⟨by omega, hk2⟩
    exact ⟨F2, G2, r1, r2, fun k hk => hin k (r3 k hk), fun k hk => hin k (r4 k hk), r5⟩

end Go.Proofs.Ytpclhecpfjkehaa
