/- fds.Decode: what holds between two rounds. -/
import Derived.Test.YtpclhecpfjkehaaFdD
import Derived.RangeFuncWrites
namespace Go.Proofs.Ytpclhecpfjkehaa
open Go.RowKit

structure DecP (w : World) (xs : List FD) (W : World) (v : Value) (f : Nat → Nat) : Prop where
  bel : Below w.heap.size w W
  r0 : W.heap[w.heap.size]? = some (.cells #[.pointer none] 43 (0, 0))
  r1 : W.heap[w.heap.size + 1]? = some (.cells #[.int .i64 0] 44 (0, 0))
  lb : W.heap[w.heap.size + 2]? = some (.cells #[v] 111 (0, 0))
  sz : w.heap.size + 5 ≤ W.heap.size
  own : W.ownsRow (w.heap.size + 5) 115 1 v xs.length (filePtrs f (List.range xs.length))
  file : ∀ j X, xs[j]? = some X → W.heap[f j]? = some (.cells (ftCells ⟨X, 0⟩) 56 (0, 0)) ∧ w.heap.size + 5 ≤ f j
  inj : ∀ i j, i < xs.length → j < xs.length → f i = f j → i = j

theorem heap_keptF {A B : World} {row : Option Nat} {g : Nat} {c : Array Value} {t : TypeId} {fr : Nat × Nat} (h : A.heap[g]? = some (.cells c t fr)) (hg : A.grownBy B row) (hr : ∀ r, row = some r → ∃ o : Obj, A.heap[r]? = some o ∧ o.isCells = false) : B.heap[g]? = some (.cells c t fr) := by
  rw [hg.block g (lt_of_heap h) (fun e => by
    obtain ⟨o, ho, h1⟩ := hr g e.symm
    rw [h] at ho
    injection ho with ho
    subst ho
    cases h1)]
  exact h

theorem own_keptF {A B : World} {row : Option Nat} {base size n : Nat} {e : TypeId} {v : Value} {xs : List Value} (h : A.ownsRow base e size v n xs) (hg : A.grownBy B row) (hr : ∀ r, row = some r → ∃ o : Obj, A.heap[r]? = some o ∧ o.isCells = false) : B.ownsRow base e size v n xs := by
  rcases h with ⟨h1, h2 | ⟨g, cap, cur, rfl, hb, hh, hx⟩⟩
  · exact ⟨h1, .inl h2⟩
  · exact ⟨h1, .inr ⟨g, cap, cur, rfl, hb, heap_keptF hh hg hr, hx⟩⟩

theorem below_keptF {w A B : World} {row : Option Nat} {C : Nat} (h : Below w.heap.size w A) (hg : A.grownBy B row) (hC : w.heap.size ≤ C) (hr : ∀ r, row = some r → C ≤ r) : Below w.heap.size w B :=
  h.grown hg h.size (fun k e => by have := hr k e; omega)

theorem DecP.kept {w A B : World} {xs : List FD} {v : Value} {f : Nat → Nat} {row : Option Nat} {C : Nat} (h : DecP w xs A v f) (hg : A.grownBy B row) (hC : w.heap.size ≤ C) (hr : ∀ r, row = some r → C ≤ r ∧ ∃ o : Obj, A.heap[r]? = some o ∧ o.isCells = false) : DecP w xs B v f := by
  have hr2 := fun r e => (hr r e).2
  exact ⟨below_keptF h.bel hg hC (fun r e => (hr r e).1), heap_keptF h.r0 hg hr2, heap_keptF h.r1 hg hr2, heap_keptF h.lb hg hr2, Nat.le_trans h.sz hg.size, own_keptF h.own hg hr2,
    fun j X hj => ⟨heap_keptF (h.file j X hj).1 hg hr2, (h.file j X hj).2⟩, h.inj⟩

def fdsOf (ws : List Int) {N : Nat} (pre : List (ChNo N)) : List FD := pre.map fun x => fileAt ws x.1

def DecI (w : World) (ws : List Int) (N : Nat) (pre : List (ChNo N)) (W : World) : Prop := (∃ v f, DecP w (fdsOf ws pre) W v f) ∧ ∀ x ∈ pre, fileOk ws x.1 = true

def DecX (w : World) (ws : List Int) (N : Nat) (c : Code) (pre : List (ChNo N)) (W : World) : Prop :=
  c = .ret ∧ Below w.heap.size w W ∧ W.heap[w.heap.size]? = some (.cells #[.pointer none] 43 (0, 0)) ∧ W.heap[w.heap.size + 1]? = some (.cells #[.int .i64 101] 44 (0, 0)) ∧ ∃ x ∈ pre, fileOk ws x.1 = false

theorem DecI.ownFrom {w : World} {ws : List Int} {N C : Nat} (hC : w.heap.size ≤ C) : OwnFrom C (DecI w ws N) := by
  rintro s A B row ⟨⟨v, f, h⟩, h2⟩ hg hr
  exact ⟨⟨v, f, h.kept hg hC hr⟩, h2⟩

theorem DecX.ownFrom {w : World} {ws : List Int} {N C : Nat} (hC : w.heap.size ≤ C) (c : Code) : OwnFrom C (DecX w ws N c) := by
  rintro s A B row ⟨h1, h2, h3, h4, h5⟩ hg hr
  have hr2 := fun r e => (hr r e).2
  exact ⟨h1, below_keptF h2 hg hC (fun r e => (hr r e).1), heap_keptF h3 hg hr2, heap_keptF h4 hg hr2, h5⟩

theorem fileAt_len (ws : List Int) {N : Nat} (pre : List (ChNo N)) : (fdsOf ws pre).length = pre.length := by simp [fdsOf]

theorem DecP.snoc {w W w' : World} {xs : List FD} {v v' : Value} {f : Nat → Nat} (h : DecP w xs W v f) (X : FD)
    (hg : (((W.alloc (.cells (ftCells ⟨X, 0⟩) 56)).alloc (.cells #[.pointer (some ⟨W.heap.size, 0, none⟩)] 115)).drew).grownBy w' v.ownBlock)
    (hown : w'.ownsRow (w.heap.size + 5) 115 1 v' (xs.length + 1) (filePtrs f (List.range xs.length) ++ [.pointer (some ⟨W.heap.size, 0, none⟩)])) :
    DecP w (xs ++ [X]) (w'.setCell ⟨w.heap.size + 2, 0, none⟩ v') v' (fNew f xs.length W.heap.size) ∧ KpC w.heap.size (w.heap.size + 3) (w.heap.size + 4) W (w'.setCell ⟨w.heap.size + 2, 0, none⟩ v') ∧ KeepsOthers W (w'.setCell ⟨w.heap.size + 2, 0, none⟩ v') := by
  have hW2 : ∀ k, k < W.heap.size → (((W.alloc (.cells (ftCells ⟨X, 0⟩) 56)).alloc (.cells #[.pointer (some ⟨W.heap.size, 0, none⟩)] 115)).drew).heap[k]? = W.heap[k]? := fun k hk => by
    rw [heap_drew, heap_alloc, if_neg (by simp; omega), heap_alloc, if_neg (by omega)]
  have hold : ∀ k, k < W.heap.size → some k ≠ v.ownBlock → w'.heap[k]? = W.heap[k]? := fun k hk hne => by
    rw [hg.block k (by rw [heap_drew]; simp; omega) hne]; exact hW2 k hk
  have hnew : w'.heap[W.heap.size]? = some (.cells (ftCells ⟨X, 0⟩) 56 (0, 0)) := by
    rw [hg.block _ (by rw [heap_drew]; simp; omega) (fun e => by have := (h.own.lt _ e.symm).2; omega), heap_drew, heap_alloc, if_neg (by simp), heap_alloc, if_pos rfl]
  have hvlo : ∀ k, some k = v.ownBlock → w.heap.size + 5 ≤ k := fun k e => (h.own.lt k e.symm).1
  have hlow : ∀ k, k < w.heap.size + 5 → w'.heap[k]? = W.heap[k]? := fun k hk => hold k (Nat.lt_of_lt_of_le hk h.sz) (fun e => by have := hvlo k e; omega)
  have hsz : W.heap.size + 2 ≤ w'.heap.size := by have := hg.size; rw [heap_drew] at this; simpa using this
  have hL : w.heap.size + 2 < w.heap.size + 5 := by omega
  have hfne : ∀ j Y, xs[j]? = some Y → some (f j) ≠ v.ownBlock := fun j Y hj e => by
    have h1 := (h.file j Y hj).1
    rcases h.own.2 with ⟨hv, _⟩ | ⟨g, cap, cur, hv, _, hh, _⟩
    · rw [hv] at e; cases e
    · rw [hv] at e
      injection e with e
      rw [e] at h1
      have h2 : g = g := rfl
      rw [show W.heap[g]? = _ from hh] at h1
      injection h1 with h1
      injection h1 with _ h1
      exact absurd h1 (by decide)
  have hset : ∀ k, k ≠ w.heap.size + 2 → (w'.setCell ⟨w.heap.size + 2, 0, none⟩ v').heap[k]? = w'.heap[k]? := fun k hk => heap_setCell_ne _ _ _ _ hk
  refine ⟨⟨?_, ?_, ?_, ?_, ?_, ?_, ?_, ?_⟩, ⟨?_, ?_, ?_⟩, ?_⟩
  · refine Below.setCell ?_ (p := ⟨w.heap.size + 2, 0, none⟩) (by show w.heap.size ≤ w.heap.size + 2; omega) _
    refine ⟨?_, ?_, ?_, ?_, fun k hk => ?_⟩
    · exact hg.os.trans h.bel.os
    · exact hg.tape.trans h.bel.tape
    · exact hg.output.trans h.bel.output
    · have := h.bel.size; omega
    · rw [hlow k (by omega)]; exact h.bel.block k hk
  · rw [hset _ (by omega), hlow _ (by omega)]; exact h.r0
  · rw [hset _ (by omega), hlow _ (by omega)]; exact h.r1
  · rw [heap_setCell_eq (by rw [hlow _ (by omega)]; exact h.lb)]; rfl
  · rw [size_of_setCellF]; have := h.sz; omega
  · rw [List.length_append, List.length_singleton]
    have e1 : filePtrs (fNew f xs.length W.heap.size) (List.range (xs.length + 1)) = filePtrs f (List.range xs.length) ++ [.pointer (some ⟨W.heap.size, 0, none⟩)] := by
      unfold filePtrs
      rw [List.range_succ, List.map_append]
      congr 1
      · apply List.map_congr_left
        intro j hj
        have := List.mem_range.1 hj
        unfold fNew
        rw [if_neg (by omega)]
      · simp [fNew]
    rw [e1]
    refine ownMod hown (G := fun k => k = w.heap.size + 2) ((Mod.refl (fun k => k = w.heap.size + 2) w').setCell (p := ⟨w.heap.size + 2, 0, none⟩) (fun _ => rfl) _) ?_
    intro k hk hkx
    have := (hown.lt k hk).1
    omega
  · intro j Y hj
    by_cases hjn : j < xs.length
    · rw [List.getElem?_append_left hjn] at hj
      have hf : fNew f xs.length W.heap.size j = f j := by unfold fNew; rw [if_neg (by omega)]
      rw [hf]
      obtain ⟨h1, h2⟩ := h.file j Y hj
      exact ⟨by rw [hset _ (by omega), hold _ (lt_of_heap h1) (hfne j Y hj)]; exact h1, h2⟩
    · have hjl := (List.getElem?_eq_some_iff.1 hj).1
      have hje : j = xs.length := by simp at hjl; omega
      subst hje
      rw [List.getElem?_append_right (Nat.le_refl _)] at hj
      simp at hj
      subst hj
      have hf : fNew f xs.length W.heap.size xs.length = W.heap.size := by unfold fNew; rw [if_pos rfl]
      rw [hf]
      have := h.sz
      exact ⟨by rw [hset _ (by omega)]; exact hnew, by omega⟩
  · intro i j hi hj hij
    rw [List.length_append, List.length_singleton] at hi hj
    have hlt : ∀ k, k < xs.length → f k < W.heap.size := fun k hk => lt_of_heap (h.file k _ (List.getElem?_eq_getElem hk)).1
    unfold fNew at hij
    by_cases h6 : i = xs.length <;> by_cases h7 : j = xs.length
    · omega
    · rw [if_pos h6, if_neg h7] at hij; have := hlt j (by omega); omega
    · rw [if_neg h6, if_pos h7] at hij; have := hlt i (by omega); omega
    · rw [if_neg h6, if_neg h7] at hij; exact h.inj i j (by omega) (by omega) hij
  · refine Below.setCell ?_ (p := ⟨w.heap.size + 2, 0, none⟩) (by show w.heap.size ≤ w.heap.size + 2; omega) _
    exact ⟨hg.os, hg.tape, hg.output, by omega, fun k hk => hlow k (by omega)⟩
  · rw [hset _ (by omega), hlow _ (by omega)]
  · rw [hset _ (by omega), hlow _ (by omega)]
  · refine ⟨by rw [size_of_setCellF]; omega, fun k o hk ho => ?_⟩
    have hkl : k < W.heap.size := by
      rcases Nat.lt_or_ge k W.heap.size with h' | h'
      · exact h'
      · rw [Array.getElem?_eq_none h'] at hk; cases hk
    have hk1 : k ≠ w.heap.size + 2 := fun e => by
      rw [e, h.lb] at hk
      injection hk with hk
      rw [← hk] at ho
      cases ho
    have hk2 : some k ≠ v.ownBlock := fun e => by
      rcases h.own.2 with ⟨hv, _⟩ | ⟨g, cap, cur, hv, _, hh, _⟩
      · rw [hv] at e; cases e
      · rw [hv] at e
        injection e with e
        rw [e] at hk
        rw [show W.heap[g]? = _ from hh] at hk
        injection hk with hk
        rw [← hk] at ho
        cases ho
    rw [hset _ hk1, hold k hkl hk2]
    exact hk

end Go.Proofs.Ytpclhecpfjkehaa
