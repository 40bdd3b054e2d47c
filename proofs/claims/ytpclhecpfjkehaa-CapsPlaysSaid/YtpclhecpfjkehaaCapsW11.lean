/- caps: Drop, Gone. -/
import Derived.Test.YtpclhecpfjkehaaCapsW10
namespace Go.Proofs.Ytpclhecpfjkehaa
open Go.RowKit

theorem size_of_setCell (w : World) (a : Addr) (u : Value) : (w.setCell a u).heap.size = w.heap.size := by simp [World.setCell]

theorem ofPtr_mp (f : Int → Nat) (of : Int) : ofPtr f of = mp (if of = 0 then none else some (f of)) := by
  unfold ofPtr mp; split <;> rfl

theorem drop1' {w : World} {f : Int → Nat} {x g : CE} {N G C0 C1 : Nat} {l : Bool} (hx : mayB x.x = true) (hgm : mayB g.x = true)
    (hN : w.heap[N]? = some (.cells (nodeCells f x) 102 (0, 0))) (hG : w.heap[G]? = some (.cells (nodeCells f g) 102 (0, 0)))
    (h0 : w.heap[C0]? = some (.cells #[.pointer (some ⟨G, 0, none⟩)] 84 (0, 0))) (h1 : w.heap[C1]? = some (.cells #[.bool l] 4 (0, 0)))
    (hof : x.of ≠ 0 → ∃ cs, w.heap[f x.of]? = some (.cells cs 102 (0, 0))) (hiff : (x.of ≠ 0 ∧ f x.of = G) ↔ x.of = g.no) (hne : N ≠ C1) :
    Calls Try.prog 85 #[.pointer (some ⟨N, 0, none⟩), .pointer (some ⟨C0, 0, none⟩), .pointer (some ⟨C1, 0, none⟩)] w fun e w' =>
      e = .returned (.tuple #[]) ∧ Mod (fun j => j = N ∨ j = C1) w w' ∧ w'.heap[N]? = some (.cells (nodeCells f (reof g x)) 102 (0, 0)) ∧
        w'.heap[C1]? = some (.cells #[.bool (l && !meetB x.x g.x)] 4 (0, 0)) := by
  simp [mayB] at hx hgm
  refine (drop1 N G C0 C1 x.x.kind x.x.id x.x.len x.x.rights (if x.of = 0 then none else some (f x.of)) g.x.kind g.x.id g.x.len g.x.rights (if g.of = 0 then none else some (f g.of)) l w
    (by omega) (by omega) (by omega) (by omega) ?_ ?_ ?_ ?_ ?_ (frozen_of_heap hN 6) ?_ ?_ ?_ ?_ ?_ ?_ ?_ (frozen_of_heap h1 0) ?_ ⟨_, hG⟩).mono ?_
  · rw [cell_of_heap hN]; rfl
  · rw [cell_of_heap hN]; rfl
  · rw [cell_of_heap hN]; rfl
  · rw [cell_of_heap hN]; rfl
  · rw [cell_of_heap hN, ← ofPtr_mp]; rfl
  · rw [cell_of_heap hG]; rfl
  · rw [cell_of_heap hG]; rfl
  · rw [cell_of_heap hG]; rfl
  · rw [cell_of_heap hG]; rfl
  · rw [cell_of_heap hG, ← ofPtr_mp]; rfl
  · rw [cell_of_heap h0]; rfl
  · rw [cell_of_heap h1]; rfl
  · intro k hk
    by_cases h : x.of = 0
    · rw [if_pos h] at hk; cases hk
    · rw [if_neg h] at hk
      injection hk with hk
      rw [← hk]; exact hof h
  · rintro e w' ⟨rfl, w1, hb, hs⟩
    have hNl := lt_of_heap hN
    have hCl := lt_of_heap h1
    rw [← ofPtr_mp] at hb
    have hcond : ((if x.of = 0 then none else some (f x.of)) = some G) ↔ x.of = g.no := by
      rw [← hiff]
      by_cases h : x.of = 0 <;> simp [h]
    -- the world ahead of the last store
    have hw1 : Mod (fun j => j = N ∨ j = C1) w w1 ∧ w1.heap[N]? = some (.cells (nodeCells f (reof g x)) 102 (0, 0)) ∧ w1.heap[C1]? = some (.cells #[.bool l] 4 (0, 0)) := by
      by_cases h : x.of = g.no
      · rw [if_pos (hcond.2 h)] at hb
        have hm : Mod (fun j => j = N ∨ j = C1) w (w.setCell ⟨N, 6, none⟩ (.pointer (ofPtr f g.of))) := (Mod.refl _ w).setCell (fun _ => .inl rfl) _
        refine ⟨hm.trans (G := fun _ => False) (Mod.of_below (hb.mono (by rw [size_of_setCell]; exact Nat.le_refl _))) (fun _ _ h => h.elim), ?_, ?_⟩
        · rw [hb.block N hNl, heap_setCell_eq hN]
          have : reof g x = { x with of := g.of } := by unfold reof; rw [if_pos h]
          rw [this]; rfl
        · rw [hb.block C1 hCl, heap_setCell_ne _ _ _ _ (Ne.symm hne)]; exact h1
      · rw [if_neg (fun h' => h (hcond.1 h'))] at hb
        have : reof g x = x := by unfold reof; rw [if_neg h]
        rw [this]
        exact ⟨Mod.of_below hb, (hb.block N hNl).trans hN, (hb.block C1 hCl).trans h1⟩
    obtain ⟨hm1, hn1, hc1⟩ := hw1
    refine ⟨rfl, (hm1.setCell (fun _ => .inr rfl) _).same hs, ?_, ?_⟩
    · rw [hs.1, heap_setCell_ne _ _ _ _ hne]; exact hn1
    · rw [hs.1, heap_setCell_eq hc1]; rfl

theorem findE_filter {M : CM} (hw : M.WF) {g : CE} (hg : g ∈ M.L) (e s : Int) :
    findE (M.L.filter fun c => !(c.no == g.no)) e s = if g.env = e ∧ g.slot = s then none else findE M.L e s := by
  cases h : findE (M.L.filter fun c => !(c.no == g.no)) e s with
  | none =>
    have hn := findE_none h
    split
    · rfl
    · rename_i hne
      cases h2 : findE M.L e s with
      | none => rfl
      | some c =>
        obtain ⟨hc, h3, h4⟩ := findE_some h2
        refine absurd ⟨h3, h4⟩ (hn c ?_)
        simp only [List.mem_filter, hc, true_and]
        have : c.no ≠ g.no := fun e1 => by
          have := hw.uno c hc g hg e1
          subst this
          exact hne ⟨h3, h4⟩
        simp [this]
  | some c =>
    obtain ⟨hc, h3, h4⟩ := findE_some h
    simp only [List.mem_filter] at hc
    obtain ⟨hc, hne⟩ := hc
    rw [if_neg, ← h3, ← h4, findE_of hw hc]
    rintro ⟨h5, h6⟩
    have := hw.upl c hc g hg (by omega) (by omega)
    subst this
    simp at hne

theorem findE_map (L : List CE) (g : CE) (e s : Int) : findE (L.map (reof g)) e s = (findE L e s).map (reof g) := by
  unfold findE
  rw [List.find?_map]
  congr 1
  apply congrArg (fun p => List.find? p L)
  funext c
  simp [Function.comp, reof_env, reof_slot]

theorem ptrTo_map (f : Int → Nat) (o : Option CE) (g : CE) : ptrTo f (o.map (reof g)) = ptrTo f o := by
  cases o with
  | none => rfl
  | some c => simp [ptrTo, reof_no]

/-- A node's place in the order of 'each'. -/
def idx (c : CE) : Nat := c.env.toNat * 65 + c.slot.toNat

theorem idx_of {M : CM} (hw : M.WF) {c : CE} (hc : c ∈ M.L) {e s : Nat} (hs : s < 65) : idx c = e * 65 + s ↔ (c.env = e ∧ c.slot = s) := by
  have := hw.env c hc
  unfold idx
  constructor
  · intro h
    have h1 : c.env.toNat = e := by omega
    have h2 : c.slot.toNat = s := by omega
    omega
  · rintro ⟨h1, h2⟩
    rw [h1, h2]; simp

theorem idx_lt {M : CM} (hw : M.WF) {c : CE} (hc : c ∈ M.L) : idx c < 780 := by
  have := hw.env c hc
  unfold idx
  omega

end Go.Proofs.Ytpclhecpfjkehaa
