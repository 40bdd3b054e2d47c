/- januslaw08.do: a deed with both. -/
import Derived.Test.YtpclhecpfjkehaaRefW12
import Derived.StillTailTactics
namespace Go.Proofs.Ytpclhecpfjkehaa
open Go.RowKit

set_option maxRecDepth 100000 in
set_option maxHeartbeats 1600000 in
theorem do_any {w0 w : World} {b x : Nat} {M : CM} {H : Nat → Prop} (h : Two w0 w b x M M H) (hl : M.last ≤ 1000000) (k e s t r : Int) (X : Cap) :
    Calls Try.prog 10 #[.pointer (some ⟨b, 0, none⟩), .pointer (some ⟨x, 0, none⟩), .agg #[.int .i64 k, .int .i64 e, .int .i64 s, .int .i64 t, .int .i64 r, .int .i64 X.kind, .int .i64 X.id, .int .i64 X.len, .int .i64 X.rights]] w fun y w' =>
      y = .returned (.bool true) ∧ Mod H w w' ∧ Two w0 w' b x (M.deed k e s t r X) (M.deed k e s t r X) (New H w w') := by
  have hcs : k = 0 ∨ k = 1 ∨ k = 2 ∨ k = 3 ∨ (¬ k = 0 ∧ ¬ k = 1 ∧ ¬ k = 2 ∧ ¬ k = 3) := by omega
  have hal := h.below ((Below.refl w.heap.size w).alloc (Nat.le_refl _) (.cells #[.int .i64 k, .int .i64 e, .int .i64 s, .int .i64 t, .int .i64 r, .int .i64 X.kind, .int .i64 X.id, .int .i64 X.len, .int .i64 X.rights] 32))
  have hl9 : M.last ≤ 1000000000 := by omega
  have HT := Lib.hid hal
  have hbx : x < w.heap.size := by
    obtain ⟨_, _, _, F, G, _, h5, _⟩ := h
    exact h5.lt x h5.fx
  have HF := Lib.hid (fun (w' : World) (M' : CM) (hm : Mod H (w.alloc (.cells #[.int .i64 k, .int .i64 e, .int .i64 s, .int .i64 t, .int .i64 r, .int .i64 X.kind, .int .i64 X.id, .int .i64 X.len, .int .i64 X.rights] 32)) w') (hT : Two w0 w' b x M' M' (New H (w.alloc (.cells #[.int .i64 k, .int .i64 e, .int .i64 s, .int .i64 t, .int .i64 r, .int .i64 X.kind, .int .i64 X.id, .int .i64 X.len, .int .i64 X.rights] 32)) w')) =>
    (⟨(Mod.of_below ((Below.refl w.heap.size w).alloc (Nat.le_refl _) _)).trans hm (fun _ _ h => h), hT.bel, fun k hk => by
      rcases hk with hk | ⟨hk, _⟩
      · exact h.ge k hk
      · have := h.bel.size; omega, fun k hk => by
      rcases hk with hk | ⟨_, hk⟩
      · have h1 := h.lt k hk; have h2 := hm.size; rw [World.size_alloc] at h2; omega
      · exact hk, by
      obtain ⟨F2, G2, r1, r2, r3, r4, r5⟩ := hT.reps
      have hin : ∀ j, New H (w.alloc (.cells #[.int .i64 k, .int .i64 e, .int .i64 s, .int .i64 t, .int .i64 r, .int .i64 X.kind, .int .i64 X.id, .int .i64 X.len, .int .i64 X.rights] 32)) w' j → New H w w' j := by
        rintro j (hj | ⟨hj, hj2⟩)
        · exact .inl hj
        · exact .inr ⟨by rw [World.size_alloc] at hj; omega, hj2⟩
      exact ⟨F2, G2, r1, r2, fun j hj => hin j (r3 j hj), fun j hj => hin j (r4 j hj), r5⟩⟩ : Mod H w w' ∧ Two w0 w' b x M' M' (New H w w')))
  have hlt := h.lt
  clear h hal
  have hcell : ∀ (w1 : World), Mod H (w.alloc (.cells #[.int .i64 k, .int .i64 e, .int .i64 s, .int .i64 t, .int .i64 r, .int .i64 X.kind, .int .i64 X.id, .int .i64 X.len, .int .i64 X.rights] 32)) w1 → ∀ j v, (#[.int .i64 k, .int .i64 e, .int .i64 s, .int .i64 t, .int .i64 r, .int .i64 X.kind, .int .i64 X.id, .int .i64 X.len, .int .i64 X.rights] : Array Value)[j]? = some v → w1.cell? ⟨w.heap.size, j, none⟩ = some v := by
    intro w1 hm j v hv
    rw [hm.cell (by simp) (fun hh => by have := hlt _ hh; simp at this)]
    rw [World.cell?_alloc_new]
    exact hv
  have HC := Lib.hid hcell
  clear hcell hlt
  rcases hcs with rfl | rfl | rfl | rfl | ⟨n0, n1, n2, n3⟩
  · have hb := Two.both HT.out 45 46 #[.int .i64 e, .agg #[.int .i64 X.kind, .int .i64 X.id, .int .i64 X.len, .int .i64 X.rights]] _ (fun w F h => add_any h e X) (fun w F h => radd h hl9 e X)
    have HM : Hid (M.deed 0 e s t r X = (M.add e X).2) := by show _ = _; rfl
    go_enter Try.func10, Try.ntmps10
    go_wp2_with fail
    refine hb.mono ?_
    rintro y w1 ⟨rfl, hm1, hg⟩
    have c1 := HC.out w1 hm1 1 _ rfl
    have c5 := HC.out w1 hm1 5 _ rfl
    have c6 := HC.out w1 hm1 6 _ rfl
    have c7 := HC.out w1 hm1 7 _ rfl
    have c8 := HC.out w1 hm1 8 _ rfl
    have hg1 := hg w1 (Same.refl _)
    clear hb hg
    go_wp2_with fail
    refine hg1.mono ?_
    rintro y w2 ⟨rfl, hm2, hT2⟩
    have HE := Lib.hid (HF.out w2 _ hm2 hT2)
    clear hg1 c1 c5 c6 c7 c8 hm1 hm2 hT2
    go_wp2
    go_ret
    rw [HM.out]
    exact ⟨rfl, HE.out⟩
  · have hb := Two.both HT.out 47 48 #[.int .i64 e, .int .i64 s, .int .i64 t, .int .i64 r] _ (fun w F h => give_any h e s t r) (fun w F h => rgive h hl9 e s t r)
    have HM : Hid (M.deed 1 e s t r X = (M.give e s t r).2) := by show _ = _; rfl
    go_enter Try.func10, Try.ntmps10
    go_wp2_with fail
    refine hb.mono ?_
    rintro y w1 ⟨rfl, hm1, hg⟩
    have c1 := HC.out w1 hm1 1 _ rfl
    have c2 := HC.out w1 hm1 2 _ rfl
    have c3 := HC.out w1 hm1 3 _ rfl
    have c4 := HC.out w1 hm1 4 _ rfl
    have hg1 := hg w1 (Same.refl _)
    clear hb hg
    go_wp2_with fail
    refine hg1.mono ?_
    rintro y w2 ⟨rfl, hm2, hT2⟩
    have HE := Lib.hid (HF.out w2 _ hm2 hT2)
    clear hg1 c1 c2 c3 c4 hm1 hm2 hT2
    go_wp2
    go_ret
    rw [HM.out]
    exact ⟨rfl, HE.out⟩
  · have hb := Two.both HT.out 49 50 #[.int .i64 e, .int .i64 s] _ (fun w F h => drop_any h e s) (fun w F h => rdrop h e s)
    have HM : Hid (M.deed 2 e s t r X = (M.drop e s).2) := by show _ = _; rfl
    go_enter Try.func10, Try.ntmps10
    go_wp2_with fail
    refine hb.mono ?_
    rintro y w1 ⟨rfl, hm1, hg⟩
    have c1 := HC.out w1 hm1 1 _ rfl
    have c2 := HC.out w1 hm1 2 _ rfl
    have hg1 := hg w1 (Same.refl _)
    clear hb hg
    go_wp2_with fail
    refine hg1.mono ?_
    rintro y w2 ⟨rfl, hm2, hT2⟩
    have HE := Lib.hid (HF.out w2 _ hm2 hT2)
    clear hg1 c1 c2 hm1 hm2 hT2
    go_wp2
    go_ret
    rw [HM.out]
    exact ⟨rfl, HE.out⟩
  · have hb := Two.both HT.out 51 52 #[.int .i64 e, .int .i64 s] _ (fun w F h => revoke_any h e s) (fun w F h => rrevoke h e s)
    have HM : Hid (M.deed 3 e s t r X = (M.revoke e s).2) := by show _ = _; rfl
    go_enter Try.func10, Try.ntmps10
    go_wp2_with fail
    refine hb.mono ?_
    rintro y w1 ⟨rfl, hm1, hg⟩
    have c1 := HC.out w1 hm1 1 _ rfl
    have c2 := HC.out w1 hm1 2 _ rfl
    have hg1 := hg w1 (Same.refl _)
    clear hb hg
    go_wp2_with fail
    refine hg1.mono ?_
    rintro y w2 ⟨rfl, hm2, hT2⟩
    have HE := Lib.hid (HF.out w2 _ hm2 hT2)
    clear hg1 c1 c2 hm1 hm2 hT2
    go_wp2
    go_ret
    rw [HM.out]
    exact ⟨rfl, HE.out⟩
  · have hb := Two.both HT.out 53 54 #[.int .i64 e] _ (fun w F h => gone_any h e) (fun w F h => rgone h e)
    have HM : Hid (M.deed k e s t r X = M.gone e) := by show _ = _; unfold CM.deed; rw [if_neg n0, if_neg n1, if_neg n2, if_neg n3]
    go_enter Try.func10, Try.ntmps10
    go_wp2_with fail
    refine hb.mono ?_
    rintro y w1 ⟨rfl, hm1, hg⟩
    have c1 := HC.out w1 hm1 1 _ rfl
    have hg1 := hg w1 (Same.refl _)
    clear hb hg
    go_wp2_with fail
    refine hg1.mono ?_
    rintro y w2 ⟨rfl, hm2, hT2⟩
    have HE := Lib.hid (HF.out w2 _ hm2 hT2)
    clear hg1 c1 hm1 hm2 hT2
    go_wp2
    go_ret
    rw [HM.out]
    exact ⟨rfl, HE.out⟩

end Go.Proofs.Ytpclhecpfjkehaa
