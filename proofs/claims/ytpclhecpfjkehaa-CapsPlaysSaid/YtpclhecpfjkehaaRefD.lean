/- janusref08.Drop: the plain part. -/
import Derived.Test.YtpclhecpfjkehaaRefW8
namespace Go.Proofs.Ytpclhecpfjkehaa
open Go.RowKit

theorem own_set {w : World} {base size n c g j : Nat} {e : TypeId} {xs : List Value} (h : w.ownsRow base e size (.slice (some ⟨g, 0, none⟩) n c) n xs) (v : Value) :
    (w.setCell ⟨g, j, none⟩ v).ownsRow base e size (.slice (some ⟨g, 0, none⟩) n c) n (xs.set j v) := by
  obtain ⟨h1, h2⟩ := h
  rcases h2 with ⟨hv, _⟩ | ⟨g', cap, cur, hv, hb, hh, h3, h4, h5, h6⟩
  · cases hv
  · injection hv with hv hn hc
    injection hv with hv
    injection hv with hv _
    subst hv
    subst hc
    refine ⟨by rw [List.length_set]; exact h1, .inr ⟨g, c, cur.setIfInBounds j v, rfl, hb, heap_setCell_eq hh, h3, h4, by rw [Array.size_setIfInBounds]; exact h5, ?_⟩⟩
    rw [Array.toList_setIfInBounds, List.take_set, h6]

theorem rcells_set : ∀ (L : List CE) (j : Nat) (c : CE) (o : Int), L[j]? = some c → rcells (L.set j { c with of := o }) = (rcells L).set (j * 8 + 1) (.int .i64 o)
  | [], j, c, o, h => by simp at h
  | a :: L, 0, c, o, h => by
    simp at h
    subst h
    rfl
  | a :: L, j + 1, c, o, h => by
    have ih := rcells_set L j c o (by simpa using h)
    rw [List.set_cons_succ]
    unfold rcells at ih ⊢
    rw [List.flatMap_cons, List.flatMap_cons, ih, List.set_append_right _ _ (by simp [rcell]; omega)]
    congr 2
    simp [rcell]
    omega

theorem rcells_take : ∀ (L : List CE) (k : Nat), (rcells L).take (k * 8) = rcells (L.take k)
  | [], k => by simp [rcells]
  | a :: L, 0 => by simp [rcells]
  | a :: L, k + 1 => by
    have ih := rcells_take L k
    rw [List.take_succ_cons]
    unfold rcells at ih ⊢
    rw [List.flatMap_cons, List.flatMap_cons, List.take_append, ← ih, List.take_of_length_le (by simp [rcell]; omega)]
    congr 2
    simp [rcell]
    omega

theorem rcells_drop : ∀ (L : List CE) (k : Nat), (rcells L).drop (k * 8) = rcells (L.drop k)
  | [], k => by simp [rcells]
  | a :: L, 0 => by simp [rcells]
  | a :: L, k + 1 => by
    have ih := rcells_drop L k
    rw [List.drop_succ_cons]
    unfold rcells at ih ⊢
    rw [List.flatMap_cons, List.drop_append, ← ih, List.drop_of_length_le (by simp [rcell]; omega), List.nil_append]
    congr 1
    simp [rcell]
    omega

theorem filter_at : ∀ (L : List CE) (k : Nat) (d : CE), L.Pairwise (fun a b => a.no ≠ b.no) → L[k]? = some d → (L.filter fun c => !(c.no == d.no)) = L.take k ++ L.drop (k + 1)
  | [], k, d, _, h => by simp at h
  | a :: L, 0, d, hp, h => by
    simp at h
    subst h
    rw [List.pairwise_cons] at hp
    rw [List.filter_cons_of_neg (by simp), List.take_zero, List.nil_append, List.drop_succ_cons, List.drop_zero, List.filter_eq_self]
    intro c hc
    have := hp.1 c hc
    simp
    omega
  | a :: L, k + 1, d, hp, h => by
    rw [List.pairwise_cons] at hp
    have h' : L[k]? = some d := by simpa using h
    have := hp.1 d (List.mem_of_getElem? h')
    rw [List.filter_cons_of_pos (by simp; omega), List.take_succ_cons, List.cons_append, List.drop_succ_cons, filter_at L k d hp.2 h']

/-- The list behind j rounds of Drop's loop. -/
def dropAt (d : CE) (L : List CE) (j : Nat) : List CE := (L.take j).map (reof d) ++ L.drop j

theorem dropAt_len (d : CE) (L : List CE) (j : Nat) : (dropAt d L j).length = L.length := by
  unfold dropAt
  simp
  omega

theorem dropAt_get (d : CE) (L : List CE) (j : Nat) (c : CE) (h : L[j]? = some c) : (dropAt d L j)[j]? = some c := by
  have hj := (List.getElem?_eq_some_iff.1 h).1
  unfold dropAt
  rw [List.getElem?_append_right (by simp; omega)]
  simp [List.length_take, Nat.min_eq_left (Nat.le_of_lt hj), h]

theorem dropAt_step (d : CE) (L : List CE) (j : Nat) (c : CE) (h : L[j]? = some c) : dropAt d L (j + 1) = (dropAt d L j).set j (reof d c) := by
  have hj := (List.getElem?_eq_some_iff.1 h).1
  have hc := (List.getElem?_eq_some_iff.1 h).2
  unfold dropAt
  rw [List.take_add_one, h, List.drop_eq_getElem_cons hj, hc, List.set_append_right _ _ (by simp; omega), List.map_append, List.append_assoc]
  have : j - ((L.take j).map (reof d)).length = 0 := by simp; omega
  rw [this]
  rfl

theorem dropAt_skip (d : CE) (L : List CE) (j : Nat) (c : CE) (h : L[j]? = some c) (hc : c.of ≠ d.no) : dropAt d L (j + 1) = dropAt d L j := by
  rw [dropAt_step d L j c h]
  have : reof d c = c := by unfold reof; rw [if_neg hc]
  rw [this]
  apply List.ext_getElem?
  intro i
  rw [List.getElem?_set]
  split
  · next e => subst e; rw [dropAt_len]; rw [if_pos (List.getElem?_eq_some_iff.1 h).1, dropAt_get d L j c h]
  · rfl

/-- A world of Drop's loop: the row L behind x, the dropped one's copy in block B. -/
structure DropSt (w wa : World) (x : Nat) (d : CE) (last : Int) (L : List CE) (A : Option Addr) (cap : Nat) : Prop where
  mod : Mod (fun j => j = x) w wa
  blk : wa.heap[x]? = some (.cells #[.slice A L.length cap, .int .i64 last] 28 (0, 0))
  box : wa.heap[w.heap.size]? = some (.cells #[.int .i64 d.no, .int .i64 d.of, .int .i64 d.env, .int .i64 d.slot, .int .i64 d.x.kind, .int .i64 d.x.id, .int .i64 d.x.len, .int .i64 d.x.rights] 105 (0, 0))
  own : wa.ownsRow (w.heap.size + 1) 105 8 (.slice A L.length cap) L.length (rcells L)

theorem DropSt.below {w wa wb : World} {x : Nat} {d : CE} {last : Int} {L : List CE} {A : Option Addr} {cap : Nat} (h : DropSt w wa x d last L A cap) (hx : x < w.heap.size) (hb : Below wa.heap.size wa wb) : DropSt w wb x d last L A cap := by
  have hs := h.mod.size
  have hB : w.heap.size < wa.heap.size := lt_of_heap h.box
  exact ⟨h.mod.trans (Mod.of_below hb) (fun _ _ h => h), by rw [hb.block x (by omega)]; exact h.blk, by rw [hb.block _ hB]; exact h.box, own_mod (G := fun _ => False) h.own (Mod.of_below hb) (fun _ _ h => h)⟩

theorem DropSt.set {w wa : World} {x : Nat} {d : CE} {last : Int} {L : List CE} {A : Option Addr} {cap : Nat} (h : DropSt w wa x d last L A cap) (hx : x < w.heap.size) (g j : Nat) (hA : A = some ⟨g, 0, none⟩) (c : CE) (hc : L[j]? = some c) (o : Int) :
    DropSt w (wa.setCell ⟨g, j * 8 + 1, none⟩ (.int .i64 o)) x d last (L.set j { c with of := o }) A cap := by
  subst hA
  have hg := h.own.lt g rfl
  refine ⟨?_, ?_, ?_, ?_⟩
  · refine ⟨h.mod.os, h.mod.tape, h.mod.output, ?_, fun k hk hf => ?_⟩
    · rw [size_of_setCell]; exact h.mod.size
    · rw [heap_setCell_ne _ _ _ _ (by show k ≠ g; omega)]; exact h.mod.block k hk hf
  · rw [heap_setCell_ne _ _ _ _ (by show x ≠ g; omega), List.length_set]; exact h.blk
  · rw [heap_setCell_ne _ _ _ _ (by show w.heap.size ≠ g; omega)]; exact h.box
  · rw [List.length_set, rcells_set L j c o hc]
    exact own_set h.own _

theorem DropSt.start {w W w2 : World} {x : Nat} {d : CE} {last : Int} {L : List CE} {A0 A : Option Addr} {n0 cap0 n cap : Nat} {zs : List Value} (hx : x < w.heap.size) (hb : Below w.heap.size w W) (hK : Keep W w2)
    (hblk : w.heap[x]? = some (.cells #[.slice A0 n0 cap0, .int .i64 last] 28 (0, 0)))
    (hbox : W.heap[w.heap.size]? = some (.cells #[.int .i64 d.no, .int .i64 d.of, .int .i64 d.env, .int .i64 d.slot, .int .i64 d.x.kind, .int .i64 d.x.id, .int .i64 d.x.len, .int .i64 d.x.rights] 105 (0, 0)))
    (hown : w2.ownsRow W.heap.size 105 8 (.slice A n cap) n zs) (hz : zs = rcells L) (hn : n = L.length) :
    DropSt w (w2.setCell ⟨x, 0, none⟩ (.slice A n cap)) x d last L A cap := by
  subst hz
  subst hn
  have hB : w.heap.size < W.heap.size := lt_of_heap hbox
  have hs := hK.size
  have hb2 : w2.heap[x]? = some (.cells #[.slice A0 n0 cap0, .int .i64 last] 28 (0, 0)) := by rw [hK.block x (by omega), hb.block x hx]; exact hblk
  refine ⟨?_, ?_, ?_, ?_⟩
  · exact ((Mod.of_below hb).trans (hK.mod (F := fun j => j = x)) (fun _ _ h => h)).setCell (p := ⟨x, 0, none⟩) (fun _ => rfl) _
  · rw [heap_setCell_eq hb2]; rfl
  · rw [heap_setCell_ne _ _ _ _ (by show w.heap.size ≠ x; omega), hK.block _ hB]; exact hbox
  · have ho := own_le hown (base' := w.heap.size + 1) (by omega)
    refine own_mod ho (G := fun k => k = x) ((Mod.refl (fun k => k = x) w2).setCell (p := ⟨x, 0, none⟩) (fun _ => rfl) _) ?_
    intro k hk hkx
    have := (hown.lt k hk).1
    omega

theorem DropSt.reads {w wa : World} {x : Nat} {d : CE} {last : Int} {L : List CE} {A : Option Addr} {cap j : Nat} {c : CE} (h : DropSt w wa x d last (dropAt d L j) A cap) (hc : L[j]? = some c) :
    ∃ g, A = some ⟨g, 0, none⟩ ∧ wa.cell? ⟨x, 0, none⟩ = some (.slice (some ⟨g, 0, none⟩) L.length cap) ∧ wa.frozen? ⟨g, j * 8 + 1, none⟩ = false ∧
      (∀ i v, i < 8 → (rcell c)[i]? = some v → wa.cell? ⟨g, j * 8 + i, none⟩ = some v) ∧ (∀ i v, i < 8 → (rcell d)[i]? = some v → wa.cell? ⟨w.heap.size, i, none⟩ = some v) := by
  have hj := (List.getElem?_eq_some_iff.1 hc).1
  have hl := dropAt_len d L j
  obtain ⟨g, c', hA, _, _⟩ := h.own.form (by omega)
  injection hA with hA
  subst hA
  refine ⟨g, rfl, ?_, ?_, fun i v hi hv => ?_, fun i v hi hv => ?_⟩
  · rw [cell_of_heap h.blk, ← hl]; rfl
  · rcases h.own.2 with ⟨hv, _⟩ | ⟨g', c2, cur, hv, _, hh, _⟩
    · cases hv
    · injection hv with hv
      injection hv with hv
      injection hv with hv _
      subst hv
      exact frozen_of_heap hh _
  · have := h.own.cells (g := g) rfl (j * 8 + i) v (by rw [rcells_get _ _ _ _ (dropAt_get d L j c hc) hi]; exact hv)
    rw [add_mk, Nat.zero_add] at this
    exact this
  · rw [cell_of_heap h.box]
    simpa [rcell] using hv

/-- Drop's 'last' behind j rounds. -/
def lastAt (d : CE) (L : List CE) (j : Nat) : Bool := (L.take j).all fun c => !meetB c.x d.x

theorem lastAt_step (d : CE) (L : List CE) (j : Nat) (c : CE) (h : L[j]? = some c) : lastAt d L (j + 1) = (lastAt d L j && !meetB c.x d.x) := by
  unfold lastAt
  rw [List.take_add_one, h, List.all_append]
  simp

theorem lastAt_true (d : CE) (L : List CE) (j : Nat) (c : CE) (h : L[j]? = some c) (hm : meetB c.x d.x = false) : lastAt d L (j + 1) = lastAt d L j := by
  rw [lastAt_step d L j c h, hm]; simp

theorem lastAt_false (d : CE) (L : List CE) (j : Nat) (c : CE) (h : L[j]? = some c) (hm : meetB c.x d.x = true) : lastAt d L (j + 1) = false := by
  rw [lastAt_step d L j c h, hm]; simp

theorem DropSt.same {w wa wb : World} {x : Nat} {d : CE} {last : Int} {L : List CE} {A : Option Addr} {cap : Nat} (h : DropSt w wa x d last L A cap) (hx : x < w.heap.size) (hs : Same wb wa) : DropSt w wb x d last L A cap :=
  h.below hx (below_same (Below.refl _ _) hs)

theorem DropSt.step {w wa : World} {x : Nat} {d : CE} {last : Int} {L : List CE} {cap g j : Nat} {c : CE} (h : DropSt w wa x d last (dropAt d L j) (some ⟨g, 0, none⟩) cap) (hx : x < w.heap.size) (hc : L[j]? = some c) (he : c.of = d.no) :
    DropSt w (wa.setCell ⟨g, j * 8 + 1, none⟩ (.int .i64 d.of)) x d last (dropAt d L (j + 1)) (some ⟨g, 0, none⟩) cap := by
  have h1 := h.set hx g j rfl c (dropAt_get d L j c hc) d.of
  have : reof d c = { c with of := d.of } := by unfold reof; rw [if_pos he]
  rw [dropAt_step d L j c hc, this]
  exact h1

theorem Same.setCell {a b : World} (h : Same a b) (p : Addr) (v : Value) : Same (a.setCell p v) (b.setCell p v) := by
  obtain ⟨h1, h2, h3, h4⟩ := h
  exact ⟨by simp [World.setCell, h1], h2, h3, h4⟩

theorem dropAt_done (d : CE) (L : List CE) (j : Nat) (c : CE) (h : L[j]? = some c) : (dropAt d L (j + 1))[j]? = some (reof d c) := by
  rw [dropAt_step d L j c h, List.getElem?_set_self]
  rw [dropAt_len]
  exact (List.getElem?_eq_some_iff.1 h).1

theorem DropSt.reads2 {w wa : World} {x : Nat} {d : CE} {last : Int} {L : List CE} {g cap j : Nat} {c : CE} (h : DropSt w wa x d last (dropAt d L (j + 1)) (some ⟨g, 0, none⟩) cap) (hc : L[j]? = some c) :
    wa.cell? ⟨x, 0, none⟩ = some (.slice (some ⟨g, 0, none⟩) L.length cap) ∧
      (∀ i v, 4 ≤ i → i < 8 → (rcell c)[i]? = some v → wa.cell? ⟨g, j * 8 + i, none⟩ = some v) ∧ (∀ i v, i < 8 → (rcell d)[i]? = some v → wa.cell? ⟨w.heap.size, i, none⟩ = some v) := by
  have hl := dropAt_len d L (j + 1)
  refine ⟨?_, fun i v hi4 hi hv => ?_, fun i v hi hv => ?_⟩
  · rw [cell_of_heap h.blk, ← hl]; rfl
  · have hr : (rcell (reof d c))[i]? = some v := by
      rw [← hv]
      rcases (by omega : i = 4 ∨ i = 5 ∨ i = 6 ∨ i = 7) with rfl | rfl | rfl | rfl <;> simp [rcell, reof_x]
    have := h.own.cells (g := g) rfl (j * 8 + i) v (by rw [rcells_get _ _ _ _ (dropAt_done d L j c hc) hi]; exact hr)
    rw [add_mk, Nat.zero_add] at this
    exact this
  · rw [cell_of_heap h.box]
    simpa [rcell] using hv

theorem DropSt.fin {w wa : World} {x : Nat} {M : CM} {F : Nat → Prop} {e s : Int} {d : CE} {L : List CE} {A : Option Addr} {cap k : Nat} (h : DropSt w wa x d M.last (dropAt d L L.length) A cap) (hw : M.WF) (hF : ∀ k, F k → k < w.heap.size) (hx : F x)
    (hf : findE M.L e s = some d) (hk : M.L[k]? = some d) (hL : L = M.L.take k ++ M.L.drop (k + 1)) :
    lastAt d L L.length = dropLast M.L d ∧ Mod F w wa ∧ RCaps wa x (M.drop e s).2 (New F w wa) := by
  have hfl : (M.L.filter fun c => !(c.no == d.no)) = L := by rw [hL]; exact filter_at M.L k d hw.nd hk
  have hM : (M.drop e s).2 = ⟨L.map (reof d), M.last⟩ := by unfold CM.drop; rw [hf]; simp only; rw [hfl]
  have hd : dropAt d L L.length = L.map (reof d) := by unfold dropAt; simp
  have hm : Mod F w wa := h.mod.mono (fun i _ hi => by subst hi; exact hx)
  rw [hd] at h
  have hwf := hw.drop e s
  rw [hM] at hwf ⊢
  refine ⟨?_, hm, hwf, fun k hk => New.lt hF hm.size k hk, .inl hx, .slice A (L.map (reof d)).length cap, h.blk, own_le h.own (Nat.zero_le _), ?_⟩
  · unfold lastAt dropLast
    rw [hfl, List.take_length]
  · intro k hk
    have := h.own.lt k hk
    exact .inr ⟨by omega, this.2⟩

end Go.Proofs.Ytpclhecpfjkehaa
