/- janusref08.Revoke: the plain part: what its search finds. -/
import Derived.Test.YtpclhecpfjkehaaCapsM
namespace Go.Proofs.Ytpclhecpfjkehaa

/-- Is a number among some? (a plain definition: the walk does not open it) -/
def hasL (xs : List Int) (n : Int) : Bool := decide (n ∈ xs)

theorem hasL_true {xs : List Int} {n : Int} : hasL xs n = true ↔ n ∈ xs := by unfold hasL; simp
theorem hasL_false {xs : List Int} {n : Int} : hasL xs n = false ↔ n ∉ xs := by unfold hasL; simp

/-- What Revoke's search has found: t's number and numbers of some that are under it, each once. -/
structure BadI (L : List CE) (t : Int) (bad : List Int) : Prop where
  head : bad[0]? = some t
  nd : bad.Nodup
  und : ∀ x ∈ bad, x = t ∨ ∃ c ∈ L, c.no = x ∧ underB L t c = true

theorem BadI.start (L : List CE) (t : Int) : BadI L t [t] := ⟨rfl, by simp, fun x hx => .inl (by simpa using hx)⟩

theorem BadI.mem {L : List CE} {t : Int} {bad : List Int} (h : BadI L t bad) : t ∈ bad := List.mem_of_getElem? h.head

theorem BadI.step {M : CM} (hw : M.WF) {t : Int} (ht : 0 < t) {bad : List Int} (h : BadI M.L t bad) {c : CE} (hc : c ∈ M.L) (h1 : c.of ∈ bad) (h2 : c.no ∉ bad) : BadI M.L t (bad ++ [c.no]) := by
  have hu : underB M.L t c = true := by
    rcases h.und c.of h1 with h3 | ⟨d, hd, h3, h4⟩
    · rw [underB_step hw t hc ht, if_neg (by omega), h3]; simp
    · rw [underB_of hw t hc ht hd h3.symm, h4]; simp
  refine ⟨?_, ?_, ?_⟩
  · have := h.head
    have hl := (List.getElem?_eq_some_iff.1 this).1
    rw [List.getElem?_append_left hl]; exact this
  · rw [List.nodup_append]
    refine ⟨h.nd, by simp, fun a ha b hb => ?_⟩
    simp only [List.mem_singleton] at hb
    subst hb
    intro e
    subst e
    exact h2 ha
  · intro x hx
    simp only [List.mem_append, List.mem_singleton] at hx
    rcases hx with hx | rfl
    · exact h.und x hx
    · exact .inr ⟨c, hc, rfl, hu⟩

theorem under_gt {M : CM} (hw : M.WF) {t : Int} (ht : 0 < t) : ∀ (k : Nat) (c : CE), c ∈ M.L → c.no.toNat ≤ k → underB M.L t c = true → t < c.no := by
  intro k
  induction k with
  | zero => intro c hc hk; have := hw.no c hc; omega
  | succ k ih =>
    intro c hc hk hu
    rcases hw.of c hc with h0 | ⟨p, hp, hp1, hp2⟩
    · rw [underB_zero hw t hc ht h0] at hu; cases hu
    · rw [underB_of hw t hc ht hp hp1.symm] at hu
      simp at hu
      rcases hu with hu | hu
      · omega
      · have := ih p hp (by omega) hu
        omega

theorem BadI.closed {M : CM} (hw : M.WF) {t : Int} (ht : 0 < t) {bad : List Int} (h : BadI M.L t bad) (hcl : ∀ c ∈ M.L, c.of ∈ bad → c.no ∈ bad) {c : CE} (hc : c ∈ M.L) :
    c.no ∈ bad ↔ c.no = t ∨ underB M.L t c = true := by
  constructor
  · intro hm
    rcases h.und _ hm with h1 | ⟨d, hd, h1, h2⟩
    · exact .inl h1
    · rw [hw.uno d hd c hc h1] at h2
      exact .inr h2
  · rintro (h1 | h1)
    · rw [h1]; exact h.mem
    · have key : ∀ (k : Nat) (c : CE), c ∈ M.L → c.no.toNat ≤ k → underB M.L t c = true → c.no ∈ bad := by
        intro k
        induction k with
        | zero => intro c hc hk; have := hw.no c hc; omega
        | succ k ih =>
          intro c hc hk hu
          rcases hw.of c hc with h0 | ⟨p, hp, hp1, hp2⟩
          · rw [underB_zero hw t hc ht h0] at hu; cases hu
          · rw [underB_of hw t hc ht hp hp1.symm] at hu
            simp at hu
            apply hcl c hc
            rw [← hp1]
            rcases hu with hu | hu
            · rw [hu]; exact h.mem
            · exact ih p hp (by omega) hu
      exact key _ c hc (Nat.le_refl _) h1

theorem BadI.len {L : List CE} {t : Int} {bad : List Int} (h : BadI L t bad) {d : CE} (hd : d ∈ L) (hdt : d.no = t) : bad.length ≤ L.length := by
  have := List.Nodup.length_le_of_subset (l₂ := L.map CE.no) h.nd (by
    intro x hx
    rcases h.und x hx with rfl | ⟨c, hc, rfl, _⟩
    · exact List.mem_map.2 ⟨d, hd, hdt⟩
    · exact List.mem_map.2 ⟨c, hc, rfl⟩)
  simpa using this

theorem BadI.count {M : CM} (hw : M.WF) {t : Int} (ht : 0 < t) {bad : List Int} (h : BadI M.L t bad) (hcl : ∀ c ∈ M.L, c.of ∈ bad → c.no ∈ bad) : (bad.length : Int) - 1 = revCount M.L t := by
  obtain ⟨r, hr⟩ : ∃ r, bad = t :: r := by
    cases bad with
    | nil => have := h.head; simp at this
    | cons a r => have := h.head; simp at this; subst this; exact ⟨r, rfl⟩
  have hnd := h.nd
  rw [hr, List.nodup_cons] at hnd
  have hp : r.Perm ((M.L.filter fun c => underB M.L t c).map CE.no) := by
    have h2 : ((M.L.filter fun c => underB M.L t c).map CE.no).Nodup := by
      rw [List.Nodup, List.pairwise_map]
      exact hw.nd.filter _
    refine (List.perm_ext_iff_of_nodup hnd.2 h2).2 fun x => ?_
    rw [List.mem_map]
    constructor
    · intro hx
      rcases h.und x (by rw [hr]; exact List.mem_cons_of_mem _ hx) with rfl | ⟨c, hc, h3, h4⟩
      · exact absurd hx hnd.1
      · exact ⟨c, List.mem_filter.2 ⟨hc, h4⟩, h3⟩
    · rintro ⟨c, hc, rfl⟩
      obtain ⟨h3, h4⟩ := List.mem_filter.1 hc
      have h5 := (h.closed hw ht hcl h3).2 (.inr h4)
      rw [hr, List.mem_cons] at h5
      rcases h5 with h5 | h5
      · have := under_gt hw ht _ c h3 (Nat.le_refl _) h4; omega
      · exact h5
  have h6 := hp.length_eq
  rw [List.length_map] at h6
  unfold revCount
  rw [hr, List.length_cons, h6]
  omega

theorem BadI.keeps {M : CM} (hw : M.WF) {t : Int} (ht : 0 < t) {bad : List Int} (h : BadI M.L t bad) (hcl : ∀ c ∈ M.L, c.of ∈ bad → c.no ∈ bad) {c : CE} (hc : c ∈ M.L) :
    (c.no = t → underB M.L t c = false) ∧ (c.no ≠ t → hasL bad c.no = underB M.L t c) := by
  have h1 := h.closed hw ht hcl hc
  constructor
  · intro h2
    cases hu : underB M.L t c with
    | false => rfl
    | true => have := under_gt hw ht _ c hc (Nat.le_refl _) hu; omega
  · intro h2
    rw [Bool.eq_iff_iff, hasL_true, h1]
    simp [h2]

end Go.Proofs.Ytpclhecpfjkehaa
