/- fds.Decode: the second loop's state. -/
import Derived.Test.YtpclhecpfjkehaaFdD2
namespace Go.Proofs.Ytpclhecpfjkehaa
open Go.RowKit

theorem same_swap (w : World) (a b : Addr) (u v : Value) (h : a.block ≠ b.block) : Same ((w.setCell a u).setCell b v) ((w.setCell b v).setCell a u) := by
  refine ⟨?_, rfl, rfl, rfl⟩
  apply Array.ext_getElem?
  intro k
  by_cases ha : k = a.block
  · have hb : k ≠ b.block := fun e => h (ha.symm.trans e)
    rw [heap_setCell_ne _ _ _ _ hb]
    subst ha
    simp only [World.setCell, Array.getElem?_modify, if_true]
    rw [if_neg (fun e => hb e.symm)]
  · rw [heap_setCell_ne (w.setCell b v) a u k ha]
    by_cases hb : k = b.block
    · subst hb
      simp only [World.setCell, Array.getElem?_modify, if_true]
      rw [if_neg h]
    · rw [heap_setCell_ne _ _ _ _ hb, heap_setCell_ne _ _ _ _ hb, heap_setCell_ne _ _ _ _ ha]

structure DecQ (w : World) (ws : List Int) (N g D : Nat) (v : Value) (f : Nat → Nat) (k : Nat) (W : World) : Prop where
  bel : Below w.heap.size w W
  r0 : W.heap[w.heap.size]? = some (.cells #[.pointer none] 43 (0, 0))
  r1 : W.heap[w.heap.size + 1]? = some (.cells #[.int .i64 0] 44 (0, 0))
  lb : W.heap[w.heap.size + 2]? = some (.cells #[v] 111 (0, 0))
  own : W.ownsRow (w.heap.size + 5) 115 1 v N (filePtrs f (List.range N))
  rep : FRep W g (decTo ws k) f
  ge : w.heap.size + 5 ≤ g ∧ ∀ n, n < N → w.heap.size + 5 ≤ f n
  dfr : W.heap[D]? = some (.deferred (some []))
  ok : ∀ j, j < k → descAt ws j ≤ (N : Int)

theorem refs_zero (ws : List Int) (n : Nat) : (decTo ws 0).refs n = 0 := by
  rw [decTo_zero]
  unfold FM.refs
  rw [List.count_eq_zero.2]
  · rfl
  · intro h
    simp at h

theorem DecQ.start {w W : World} {ws : List Int} {N D : Nat} {v : Value} {f : Nat → Nat} {xs : List FD} (h : DecP w xs W v f) (hN : N = nFiles ws) (hxs : xs = (List.range N).map (fileAt ws)) (hD : W.heap[D]? = some (.deferred (some []))) :
    DecQ w ws N W.heap.size D v f 0 (W.alloc (.cells zeroFds 120)) := by
  have hxl : xs.length = N := by rw [hxs]; simp
  have hkeep : ∀ k o, W.heap[k]? = some o → (W.alloc (.cells zeroFds 120)).heap[k]? = some o := fun k o hk => by
    have hkl : k < W.heap.size := by
      rcases Nat.lt_or_ge k W.heap.size with h' | h'
      · exact h'
      · rw [Array.getElem?_eq_none h'] at hk; cases hk
    rw [heap_alloc, if_neg (by omega)]; exact hk
  have hlen : (decTo ws 0).x.length = N := by rw [decTo_x, hN]; simp
  refine ⟨h.bel.alloc h.bel.size _, hkeep _ _ h.r0, hkeep _ _ h.r1, hkeep _ _ h.lb, ?_, ⟨⟨zeroFds, by rw [heap_alloc, if_pos rfl], zeroFds_size, fun i hi => ?_⟩, fun n hn => ?_, fun a b ha hb => ?_⟩, ⟨h.sz, fun n hn => ?_⟩, hkeep _ _ hD, fun j hj => by omega⟩
  · have := h.own.alloc (.cells zeroFds 120)
    rw [hxl] at this
    exact this
  · rw [zeroFds_at i hi, decTo_get]
    simp [ptrF]
  · rw [hlen] at hn
    have hX : xs[n]? = some (fileAt ws n) := by rw [hxs]; simp [hn]
    rw [hkeep _ _ (h.file n _ hX).1]
    have : (decTo ws 0).tell n = ⟨fileAt ws n, 0⟩ := by
      unfold FM.tell
      rw [refs_zero]
      unfold FM.fd
      rw [decTo_x]
      simp [← hN, hn]
    rw [this]
  · rw [hlen] at ha hb
    exact h.inj a b (by omega) (by omega)
  · exact (h.file n (fileAt ws n) (by rw [hxs]; simp [hn])).2

theorem DecQ.skip {w W : World} {ws : List Int} {N g D : Nat} {v : Value} {f : Nat → Nat} {k : Nat} (h : DecQ w ws N g D v f k W) (hk : k < 48) (h0 : descAt ws k = 0) : DecQ w ws N g D v f (k + 1) W := by
  obtain ⟨h1, h2, h3, h4, h5, h6, h7, h8, h9⟩ := h
  refine ⟨h1, h2, h3, h4, h5, by rw [decTo_skip hk h0]; exact h6, h7, h8, fun j hj => ?_⟩
  by_cases hjk : j = k
  · subst hjk; rw [h0]; omega
  · exact h9 j (by omega)

theorem DecQ.same {w W W' : World} {ws : List Int} {N g D : Nat} {v : Value} {f : Nat → Nat} {k : Nat} (h : DecQ w ws N g D v f k W) (hs : Same W' W) : DecQ w ws N g D v f k W' := by
  obtain ⟨h1, h2, h3, h4, h5, h6, h7, h8, h9⟩ := h
  exact ⟨below_same h1 hs, by rw [hs.1]; exact h2, by rw [hs.1]; exact h3, by rw [hs.1]; exact h4, ownSame h5 hs, h6.keep (by rw [hs.1]) (fun n _ => by rw [hs.1]), h7, by rw [hs.1]; exact h8, h9⟩

theorem DecQ.link {w W W' : World} {ws : List Int} {N g D : Nat} {v : Value} {f : Nat → Nat} {k m : Nat} (h : DecQ w ws N g D v f k W) (hw : WordsOk ws) (hN : N = nFiles ws) (hk : k < 48) (h0 : descAt ws k = (m : Int) + 1) (hm : m < N)
    (hs : Same W' ((W.setCell ⟨g, k, none⟩ (.pointer (some ⟨f m, 0, none⟩))).setCell ⟨f m, 4, none⟩ (.int .i64 ((decTo ws k).refs m + 1)))) : DecQ w ws N g D v f (k + 1) W' := by
  obtain ⟨h1, h2, h3, h4, h5, h6, h7, h8, h9⟩ := h
  have hwf : (decTo ws k).WF := decTo_wf hw (fun j hj => by rw [← hN]; exact h9 j hj)
  have hml : m < (decTo ws k).x.length := by rw [decTo_x, ← hN]; simpa using hm
  have hne := h6.ne hml
  have hg0 : (decTo ws k).get k = none := by rw [decTo_get, if_pos hk, if_neg (by omega)]
  have hsw := Same.trans hs (same_swap W ⟨g, k, none⟩ ⟨f m, 4, none⟩ _ _ (by show g ≠ f m; exact fun e => hne e.symm))
  have hd : descO (descAt ws k) = some m := by unfold descO; rw [h0, if_neg (by omega)]; congr 1
  have hst : decTo ws (k + 1) = (decTo ws k).put k (some m) := by rw [decTo_succ hk, hd]
  have hge := h7.2 m hm
  have hkeep : ∀ j, j ≠ g → j ≠ f m → W'.heap[j]? = W.heap[j]? := fun j hj1 hj2 => by
    rw [hs.1, heap_setCell_ne _ _ _ _ hj2, heap_setCell_ne _ _ _ _ hj1]
  obtain ⟨tc, ht1, _⟩ := h6.tab
  have hfm := h6.file m hml
  refine ⟨?_, ?_, ?_, ?_, ?_, ?_, h7, ?_, fun j hj => ?_⟩
  · exact below_same ((h1.setCell (p := ⟨g, k, none⟩) (by show w.heap.size ≤ g; omega) _).setCell (p := ⟨f m, 4, none⟩) (by show w.heap.size ≤ f m; omega) _) hs
  · rw [hkeep _ (by omega) (by omega)]; exact h2
  · rw [hkeep _ (by omega) (by omega)]; exact h3
  · rw [hkeep _ (by omega) (by omega)]; exact h4
  · refine ownSame (ownMod h5 (G := fun j => j = g ∨ j = f m) (((Mod.refl (fun j => j = g ∨ j = f m) W).setCell (p := ⟨g, k, none⟩) (fun _ => .inl rfl) _).setCell (p := ⟨f m, 4, none⟩) (fun _ => .inr rfl) _) ?_) hs
    intro j hj hgj
    rcases h5.2 with ⟨hv, _⟩ | ⟨r, cap, cur, hv, _, hh, _⟩
    · rw [hv] at hj; cases hj
    · rw [hv] at hj
      injection hj with hj
      have hh' : W.heap[j]? = some (.cells cur 115 (0, 0)) := by rw [← hj]; exact hh
      rcases hgj with rfl | rfl
      · rw [ht1] at hh'
        injection hh' with hh'
        injection hh' with _ hh'
        exact absurd hh' (by decide)
      · rw [hfm] at hh'
        injection hh' with hh'
        injection hh' with _ hh'
        exact absurd hh' (by decide)
  · rw [hst]
    exact h6.link hwf hk hml hg0 hsw
  · rw [hkeep D (fun e => by rw [e, ht1] at h8; cases h8) (fun e => by rw [e, hfm] at h8; cases h8)]
    exact h8
  · by_cases hjk : j = k
    · subst hjk; rw [h0]; omega
    · exact h9 j (by omega)

/-- The ways out: the two result cells written. -/
structure DecEnd (w : World) (D : Nat) (p : Value) (e : Int) (W : World) : Prop where
  bel : Below w.heap.size w W
  r0 : W.cell? ⟨w.heap.size, 0, none⟩ = some p
  r1 : W.cell? ⟨w.heap.size + 1, 0, none⟩ = some (.int .i64 e)
  dfr : W.heap[D]? = some (.deferred (some []))

theorem DecEnd.mk' {w W W' : World} {D : Nat} (hb : Below w.heap.size w W) (h0 : W.heap[w.heap.size]? = some (.cells #[.pointer none] 43 (0, 0))) (h1 : W.heap[w.heap.size + 1]? = some (.cells #[.int .i64 0] 44 (0, 0)))
    (hd : W.heap[D]? = some (.deferred (some []))) (p : Value) (e : Int) (hs : Same W' ((W.setCell ⟨w.heap.size, 0, none⟩ p).setCell ⟨w.heap.size + 1, 0, none⟩ (.int .i64 e))) : DecEnd w D p e W' := by
  have a0 : W'.heap[w.heap.size]? = some (.cells #[p] 43 (0, 0)) := by
    rw [hs.1, heap_setCell_ne _ _ _ _ (by show w.heap.size ≠ w.heap.size + 1; omega), heap_setCell_eq h0]; rfl
  have a1 : W'.heap[w.heap.size + 1]? = some (.cells #[.int .i64 e] 44 (0, 0)) := by
    rw [hs.1, heap_setCell_eq (by rw [heap_setCell_ne _ _ _ _ (by show w.heap.size + 1 ≠ w.heap.size; omega)]; exact h1)]; rfl
  refine ⟨below_same ((hb.setCell (p := ⟨w.heap.size, 0, none⟩) (Nat.le_refl _) _).setCell (p := ⟨w.heap.size + 1, 0, none⟩) (by show w.heap.size ≤ w.heap.size + 1; omega) _) hs, by rw [cell_of_heap a0]; rfl, by rw [cell_of_heap a1]; rfl, ?_⟩
  have hd0 : D ≠ w.heap.size := fun e => by rw [e, h0] at hd; cases hd
  have hd1 : D ≠ w.heap.size + 1 := fun e => by rw [e, h1] at hd; cases hd
  rw [hs.1, heap_setCell_ne _ _ _ _ hd1, heap_setCell_ne _ _ _ _ hd0]
  exact hd

theorem DecQ.lt {w W : World} {ws : List Int} {N g D : Nat} {v : Value} {f : Nat → Nat} {k : Nat} (h : DecQ w ws N g D v f k W) : g < W.heap.size ∧ ∀ n, n < (decTo ws k).x.length → f n < W.heap.size := by
  obtain ⟨c, h1, _⟩ := h.rep.tab
  exact ⟨lt_of_heap h1, fun n hn => lt_of_heap (h.rep.file n hn)⟩

theorem DecQ.fds {w W : World} {ws : List Int} {N g D : Nat} {v : Value} {f : Nat → Nat} (h : DecQ w ws N g D v f 48 W) (hw : WordsOk ws) (hN : N = nFiles ws) : Fds W g (decM ws) (fun k => w.heap.size + 5 ≤ k ∧ k < W.heap.size) := by
  have hlt := h.lt
  refine ⟨decTo_wf hw (fun j hj => by rw [← hN]; exact h.ok j hj), fun k hk => hk.2, f, h.rep, ⟨h.ge.1, hlt.1⟩, fun n hn => ⟨h.ge.2 n ?_, hlt.2 n hn⟩⟩
  have : (decM ws).x.length = N := by show (decTo ws 48).x.length = N; rw [decTo_x, hN]; simp
  omega

theorem fileOk_okW {ws : List Int} (hw : WordsOk ws) {k : Nat} (h : fileOk ws k = true) : (fileAt ws k).okW := by
  unfold fileOk at h
  simp only [Bool.and_eq_true, decide_eq_true_eq] at h
  have h2 := wdA_nonneg hw (2 + 4 * k)
  have h3 := wdA_nonneg hw (3 + 4 * k)
  refine ⟨⟨?_, ?_⟩, ⟨?_, ?_⟩, ⟨?_, ?_⟩⟩ <;> simp only [fileAt] <;> omega

theorem decM_okW {ws : List Int} (hw : WordsOk ws) (h : ∀ k, k < nFiles ws → fileOk ws k = true) (hd : ∀ j, j < 48 → descAt ws j ≤ (nFiles ws : Nat)) : ∀ n ∈ (decM ws).files, ((decM ws).fd n).okW := by
  intro n hn
  have hwf : (decTo ws 48).WF := decTo_wf hw hd
  have hl : n < (decTo ws 48).x.length := hwf.lt n (mem_filesOf.1 hn)
  rw [decTo_x] at hl
  have hl' : n < nFiles ws := by simpa using hl
  have : (decM ws).fd n = fileAt ws n := by
    unfold FM.fd
    show ((decTo ws 48).x[n]?).getD FD.zero = _
    rw [decTo_x]
    simp [hl']
  rw [this]
  exact fileOk_okW hw (h n hl')

end Go.Proofs.Ytpclhecpfjkehaa
