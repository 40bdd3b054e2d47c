/- caps: Revoke. -/
import Derived.Test.YtpclhecpfjkehaaCapsW13
namespace Go.Proofs.Ytpclhecpfjkehaa
open Go.RowKit

def nptr (f : Int → Nat) (c : CE) : Value := .pointer (some ⟨f c.no, 0, none⟩)

structure RevI (w : World) (b : Nat) (M : CM) (f : Int → Nat) (t : CE) (k : Nat) (w' : World) : Prop where
  mod : Below w.heap.size w w'
  ex : ∃ bs : List CE, (∀ c, c ∈ bs ↔ c ∈ M.L ∧ underB M.L t.no c = true ∧ idx c < k) ∧ (bs.Pairwise fun a b => a.no ≠ b.no) ∧ RevW w' M.L f t w.heap.size (w.heap.size + 1) (w.heap.size + 2) (bs.map (nptr f))

theorem RevI.skip {w : World} {b : Nat} {M : CM} {f : Int → Nat} {t : CE} {e s : Nat} {w' : World} (hw : M.WF) (hs : s < 65)
    (hn : findE M.L e s = none) (h : RevI w b M f t (e * 65 + s) w') : RevI w b M f t (e * 65 + s + 1) w' := by
  obtain ⟨hm, bs, h1, h2, h3⟩ := h
  refine ⟨hm, bs, fun c => ?_, h2, h3⟩
  rw [h1 c]
  constructor
  · rintro ⟨a1, a2, a3⟩; exact ⟨a1, a2, by omega⟩
  · rintro ⟨a1, a2, a3⟩
    refine ⟨a1, a2, ?_⟩
    have : idx c ≠ e * 65 + s := fun h4 => findE_none hn c a1 ((idx_of hw a1 hs).1 h4)
    omega

theorem len_le_780 {M : CM} (hw : M.WF) {bs : List CE} (h1 : ∀ c ∈ bs, c ∈ M.L) (h2 : bs.Pairwise fun a b => a.no ≠ b.no) : bs.length ≤ 780 := by
  have hn : (bs.map idx).Nodup := by
    rw [List.Nodup, List.pairwise_map]
    refine List.Pairwise.imp_of_mem ?_ h2
    intro a c ha hc hac hi
    apply hac
    have ea := hw.env a (h1 a ha)
    have ec := hw.env c (h1 c hc)
    unfold idx at hi
    rw [hw.upl a (h1 a ha) c (h1 c hc) (by omega) (by omega)]
  have := List.Nodup.length_le_of_subset (l₂ := List.range 780) hn (by
    intro i hi
    obtain ⟨c, hc, rfl⟩ := List.mem_map.1 hi
    exact List.mem_range.2 (idx_lt hw (h1 c hc)))
  simpa using this

theorem RevI.call {w : World} {b : Nat} {M : CM} {f : Int → Nat} {t : CE} {e s : Nat} {a : Addr} {w' : World} (hw : M.WF) (ht : t ∈ M.L) (hr : Rep w b M.L f) (hs : s < 65)
    (hn : ptrTo f (findE M.L e s) = some a) (h : RevI w b M f t (e * 65 + s) w') :
    Calls Try.prog 87 #[.pointer (some a), .pointer (some ⟨w.heap.size, 0, none⟩), .pointer (some ⟨w.heap.size + 1, 0, none⟩)] w' fun y w2 =>
      y = .returned (.tuple #[]) ∧ RevI w b M f t (e * 65 + s + 1) w2 := by
  cases hf : findE M.L e s with
  | none => rw [hf] at hn; cases hn
  | some x =>
    rw [hf] at hn
    injection hn with hn
    subst hn
    obtain ⟨hx, hxe, hxs⟩ := findE_some hf
    have hix : idx x = e * 65 + s := (idx_of hw hx hs).2 ⟨hxe, hxs⟩
    obtain ⟨hm, bs, h1, h2, h3⟩ := h
    have hlen := len_le_780 hw (fun c hc => ((h1 c).1 hc).1) h2
    refine (revoke1 hw hr.inj ht hx h3 (by simp; omega)).mono ?_
    rintro y w2 ⟨rfl, hmod, v, hv, hown⟩
    have hsz := h3.sz
    have hb2 : Below w.heap.size w w2 := hm.trans (hmod.below (by omega) (fun i hi h => by omega))
    have hkeep : ∀ j, j < w.heap.size + 1 → w2.heap[j]? = w'.heap[j]? := fun j hj => hmod.block j (by omega) (fun h => by omega)
    refine ⟨rfl, hb2, bs ++ if underB M.L t.no x then [x] else [], ?_, ?_, ⟨?_, ?_, ⟨v, hv, ?_⟩, by omega, Nat.le_trans hsz hmod.size⟩⟩
    · intro c
      rw [List.mem_append, h1 c]
      constructor
      · rintro (⟨a1, a2, a3⟩ | hc)
        · exact ⟨a1, a2, by omega⟩
        · split at hc
          · rename_i hu
            simp only [List.mem_singleton] at hc
            subst hc
            exact ⟨hx, hu, by omega⟩
          · cases hc
      · rintro ⟨a1, a2, a3⟩
        by_cases hcx : c = x
        · subst hcx
          right
          rw [if_pos a2]; simp
        · left
          refine ⟨a1, a2, ?_⟩
          have : idx c ≠ e * 65 + s := by
            intro h4
            have h5 := (idx_of hw a1 hs).1 h4
            exact hcx (hw.upl c a1 x hx (by omega) (by omega))
          omega
    · rw [List.pairwise_append]
      refine ⟨h2, ?_, ?_⟩
      · split
        · exact List.pairwise_singleton _ _
        · exact List.Pairwise.nil
      · intro c hc d hd
        split at hd
        · simp only [List.mem_singleton] at hd
          subst hd
          intro heq
          have hc' := (h1 c).1 hc
          have := hw.uno c hc'.1 d hx heq
          subst this
          omega
        · cases hd
    · intro z hz
      rw [hkeep _ (by have := hr.nlt hz; omega)]
      exact h3.node z hz
    · rw [hkeep _ (by omega)]; exact h3.top
    · have : (bs ++ if underB M.L t.no x then [x] else []).map (nptr f) = revXs f x (underB M.L t.no x) (bs.map (nptr f)) := by
        unfold revXs
        rw [List.map_append]
        split <;> rfl
      rw [this]
      exact hown

end Go.Proofs.Ytpclhecpfjkehaa
