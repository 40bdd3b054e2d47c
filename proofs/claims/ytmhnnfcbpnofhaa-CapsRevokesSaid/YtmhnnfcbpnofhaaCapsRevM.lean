/- Law CapsRevokes: the plain part. -/
import Derived.Test.YtmhnnfcbpnofhaaCapsM
namespace Go.Proofs.Ytmhnnfcbpnofhaa

def rootE : CE := ⟨1, 0, 1, 1, ⟨1, 5, 1, 7⟩⟩

structure RevInv (M : CM) : Prop where
  wf : M.WF
  root : rootE ∈ M.L
  of0 : ∀ c ∈ M.L, c.of = 0 → c.no = 1

theorem RevInv.start : RevInv ⟨[rootE], 1⟩ := by
  refine ⟨?_, by simp, ?_⟩
  · have := CM.WF.ofEmpty.add 1 ⟨1, 5, 1, 7⟩
    exact this
  · intro c hc _
    simp at hc
    subst hc
    rfl

theorem RevInv.put {M : CM} (h : RevInv M) {e : Int} {x : Cap} {of : Int} (he : isB e = true) (hx : mayB x = true) (ho : ∃ d ∈ M.L, d.no = of) : RevInv (M.put e x of).2 := by
  have hwf := h.wf.put he hx (.inr ho)
  refine ⟨hwf, ?_, ?_⟩ <;> unfold CM.put <;> split
  · exact h.root
  · simp [h.root]
  · exact h.of0
  · intro c hc h0
    simp only [List.mem_append, List.mem_singleton] at hc
    rcases hc with hc | rfl
    · exact h.of0 c hc h0
    · obtain ⟨d, hd, hd1⟩ := ho
      have := h.wf.no d hd
      simp at h0
      omega

theorem RevInv.give {M : CM} (h : RevInv M) (e s to r : Int) : RevInv (M.give e s to r).2 := by
  unfold CM.give
  split
  · exact h
  · rename_i c hc
    obtain ⟨h1, _, _⟩ := findE_some hc
    split
    · rename_i hg
      split
      · rename_i ht
        simp [grantB] at hg
        exact h.put ht (mayB_rights (h.wf.may c h1) hg.1.1.2 hg.1.2) ⟨c, h1, rfl⟩
      · exact h
    · exact h

theorem RevInv.drop {M : CM} (h : RevInv M) (e s : Int) (hne : ¬ (e = 1 ∧ s = 1)) : RevInv (M.drop e s).2 := by
  have hwf := h.wf.drop e s
  cases hf : findE M.L e s with
  | none =>
    have : M.drop e s = ((false, 104), M) := by unfold CM.drop; rw [hf]
    rw [this]; exact h
  | some g =>
    obtain ⟨hg, hge, hgs⟩ := findE_some hf
    have hd : M.drop e s = ((dropLast M.L g, 0), ⟨(M.L.filter fun c => !(c.no == g.no)).map (reof g), M.last⟩) := by unfold CM.drop; rw [hf]
    rw [hd] at hwf ⊢
    have hg1 : g.no ≠ 1 := by
      intro h1
      have := h.wf.uno g hg rootE h.root h1
      subst this
      exact hne ⟨hge.symm, hgs.symm⟩
    refine ⟨hwf, ?_, ?_⟩
    · refine mem_drop.2 ⟨rootE, h.root, fun h1 => hg1 h1.symm, ?_⟩
      unfold reof
      have := h.wf.no g hg
      rw [if_neg (by show ¬ (0 : Int) = g.no; omega)]
    · intro d hd h0
      obtain ⟨c, hc, hcg, rfl⟩ := mem_drop.1 hd
      rw [reof_no]
      unfold reof at h0
      split at h0
      · exact absurd (h.of0 g hg h0) hg1
      · exact h.of0 c hc h0

theorem RevInv.under {M : CM} (h : RevInv M) : ∀ (n : Nat) (c : CE), c ∈ M.L → c.no.toNat ≤ n → c.no ≠ 1 → underB M.L 1 c = true := by
  intro n
  induction n with
  | zero => intro c hc hn; have := h.wf.no c hc; omega
  | succ n ih =>
    intro c hc hn h1
    rcases h.wf.of c hc with h0 | ⟨p, hp, hp1, hp2⟩
    · exact absurd (h.of0 c hc h0) h1
    · rw [underB_of h.wf 1 hc (by omega) hp hp1.symm]
      by_cases hp3 : p.no = 1
      · simp [hp3]
      · rw [ih p hp (by have := h.wf.no p hp; omega) hp3]; simp

theorem RevInv.revoke {M : CM} (h : RevInv M) : ∃ n l, M.revoke 1 1 = ((n, 0), ⟨[rootE], l⟩) := by
  have hf : findE M.L 1 1 = some rootE := findE_of h.wf h.root
  refine ⟨revCount M.L 1, M.last, ?_⟩
  unfold CM.revoke
  rw [hf]
  have hL : (M.L.filter fun c => !underB M.L rootE.no c) = [rootE] := by
    have hall : ∀ c ∈ (M.L.filter fun c => !underB M.L rootE.no c), c = rootE := by
      intro c hc
      simp only [List.mem_filter] at hc
      by_cases h1 : c.no = 1
      · exact h.wf.uno c hc.1 rootE h.root h1
      · have := h.under _ c hc.1 (Nat.le_refl _) h1
        have h2 : underB M.L rootE.no c = true := this
        rw [h2] at hc
        simp at hc
    have hroot : rootE ∈ (M.L.filter fun c => !underB M.L rootE.no c) := by
      simp only [List.mem_filter, h.root, true_and]
      rw [underB_zero h.wf rootE.no h.root (by decide) rfl]; rfl
    have hnd := h.wf.nodup.filter (fun c => !underB M.L rootE.no c)
    generalize (M.L.filter fun c => !underB M.L rootE.no c) = l at hall hroot hnd
    match l, hall, hroot, hnd with
    | [], _, hroot, _ => cases hroot
    | [a], hall, _, _ => rw [hall a (by simp)]
    | a :: b :: l, hall, _, hnd =>
      have ha := hall a (by simp)
      have hb := hall b (by simp)
      subst ha
      rw [hb] at hnd
      simp at hnd
  show ((revCount M.L rootE.no, (0 : Int)), (⟨M.L.filter fun c => !underB M.L rootE.no c, M.last⟩ : CM)) = _
  rw [hL]
  rfl

theorem root_find (l : Int) (s : Nat) : (findE (⟨[rootE], l⟩ : CM).L 1 s).isSome = (s == 1) := by
  unfold findE
  by_cases h : s = 1
  · subst h; rfl
  · have : (s == 1) = false := by simpa using h
    rw [this]
    have h2 : (⟨[rootE], l⟩ : CM).L.find? (fun c => c.env == 1 && c.slot == (s : Int)) = none := by
      rw [List.find?_eq_none]
      intro x hx
      simp only [List.mem_singleton] at hx
      subst hx
      simp [rootE]
      omega
    rw [h2]; rfl

theorem root_hold (l : Int) : (⟨[rootE], l⟩ : CM).holders 1 5 = [1] := by rfl

end Go.Proofs.Ytmhnnfcbpnofhaa
