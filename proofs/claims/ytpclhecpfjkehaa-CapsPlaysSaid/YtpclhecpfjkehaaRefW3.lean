/- janusref08: put. -/
import Derived.Test.YtpclhecpfjkehaaRefW2
import Derived.Test.YtpclhecpfjkehaaApp
import Derived.Deep.RegionLaw
import Derived.BigRegion
namespace Go.Proofs.Ytpclhecpfjkehaa
open Go.RowKit

theorem cInfo : (Try.prog.info? 105).map (fun i => (i.zero, i.size, i.bytes)) = some (some (.agg #[.int .i64 0, .int .i64 0, .int .i64 0, .int .i64 0, .int .i64 0, .int .i64 0, .int .i64 0, .int .i64 0]), 8, 64) := by kernel_rfl

theorem rcells_one (L : List CE) : ∀ u ∈ rcells L, u.oneCell' = true := by
  intro u hu
  unfold rcells at hu
  obtain ⟨c, _, hc⟩ := List.mem_flatMap.1 hu
  unfold rcell at hc
  simp only [List.mem_cons, List.not_mem_nil, or_false] at hc
  rcases hc with rfl | rfl | rfl | rfl | rfl | rfl | rfl | rfl <;> rfl

/-- All that was in W is in w1 as it was. -/
structure Keep (W w1 : World) : Prop where
  size : W.heap.size ≤ w1.heap.size
  block : ∀ k, k < W.heap.size → w1.heap[k]? = W.heap[k]?
  os : w1.os = W.os
  tape : w1.tape = W.tape
  output : w1.output = W.output

theorem Keep.cell {W w1 : World} (h : Keep W w1) {g i : Nat} {u : Value} (hc : W.cell? ⟨g, i, none⟩ = some u) : w1.cell? ⟨g, i, none⟩ = some u := by
  rw [World.cell?_of_block (w := W) (h.block g (World.block_lt_of_cell? _ _ hc))]; exact hc
theorem Keep.frozen {W w1 : World} (h : Keep W w1) {g i : Nat} (hg : g < W.heap.size) (hc : W.frozen? ⟨g, i, none⟩ = false) : w1.frozen? ⟨g, i, none⟩ = false := by
  rw [World.frozen?_of_block (w := W) (h.block g hg)]; exact hc
theorem Keep.grown {W w1 : World} {row : Option Nat} (hg : W.drew.grownBy w1 row) (hr : row = none) : Keep W w1 :=
  ⟨hg.size, fun k hk => hg.block k hk (by rw [hr]; simp), hg.os, hg.tape, hg.output⟩
theorem Keep.grown' {W w1 : World} {o : Obj} {row : Option Nat} (hg : (W.alloc o).drew.grownBy w1 row) (hr : row = none) : Keep W w1 := by
  have hs : (W.alloc o).heap.size ≤ w1.heap.size := hg.size
  rw [World.size_alloc] at hs
  exact ⟨by omega, fun k hk => (hg.block k (by show k < (W.alloc o).heap.size; rw [World.size_alloc]; omega) (by rw [hr]; simp)).trans (by show (W.alloc o).heap[k]? = _; rw [heap_alloc, if_neg (by omega)]), hg.os, hg.tape, hg.output⟩
theorem Keep.box {W w1 : World} {o : Obj} {row : Option Nat} (hg : (W.alloc o).drew.grownBy w1 row) (hr : row = none) : w1.heap[W.heap.size]? = some o := by
  refine (hg.block W.heap.size (by show W.heap.size < (W.alloc o).heap.size; rw [World.size_alloc]; omega) (by rw [hr]; simp)).trans ?_
  show (W.alloc o).heap[W.heap.size]? = _
  rw [heap_alloc, if_pos rfl]
theorem Keep.more {W w1 w2 : World} {row : Option Nat} (h : Keep W w1) (hg : w1.grownBy w2 row) (hr : ∀ k, row = some k → W.heap.size ≤ k) : Keep W w2 :=
  ⟨Nat.le_trans h.size hg.size, fun k hk => (hg.block k (Nat.lt_of_lt_of_le hk h.size) (fun e => by have := hr k e.symm; omega)).trans (h.block k hk), hg.os.trans h.os, hg.tape.trans h.tape, hg.output.trans h.output⟩
theorem Keep.more' {W w1 w2 : World} {o : Obj} {row : Option Nat} (h : Keep W w1) (hg : (w1.alloc o).grownBy w2 row) (hr : ∀ k, row = some k → W.heap.size ≤ k) : Keep W w2 := by
  have hs := hg.size
  rw [World.size_alloc] at hs
  have h1 := h.size
  exact ⟨by omega, fun k hk => (hg.block k (by rw [World.size_alloc]; omega) (fun e => by have := hr k e.symm; omega)).trans (by rw [heap_alloc, if_neg (by omega)]; exact h.block k hk), hg.os.trans h.os, hg.tape.trans h.tape, hg.output.trans h.output⟩

theorem Keep.mod {W w1 : World} {F : Nat → Prop} (h : Keep W w1) : Mod F W w1 := ⟨h.os, h.tape, h.output, h.size, fun k hk _ => h.block k hk⟩

theorem own_le {w : World} {base base' size n : Nat} {e : TypeId} {v : Value} {xs : List Value} (h : w.ownsRow base e size v n xs) (hb : base' ≤ base) : w.ownsRow base' e size v n xs :=
  ⟨h.1, h.2.elim Or.inl (fun ⟨g, cap, cur, hv, hg, r⟩ => Or.inr ⟨g, cap, cur, hv, Nat.le_trans hb hg, r⟩)⟩

set_option maxRecDepth 100000 in
set_option maxHeartbeats 3200000 in
theorem rput_room (x : Nat) (A : Option Addr) (n cap fr : Nat) (last e of a b c d : Int) (xs : List Value) (w : World) (hl0 : 0 ≤ last) (hl : last ≤ 1000000000) (hn : n ≤ 780)
    (hblk : w.heap[x]? = some (.cells #[.slice A n cap, .int .i64 last] 28 (0, 0)))
    (hsrc : Src w 8 A n xs) (hone : ∀ u ∈ xs, u.oneCell' = true) (hAx : ∀ g o, A = some ⟨g, o, none⟩ → g ≠ x)
    (hfree : ∀ w1 : World, Below w.heap.size w w1 → Calls Try.prog 95 #[.pointer (some ⟨x, 0, none⟩), .int .i64 e] w1 fun y w' => y = .returned (.int .i64 fr) ∧ w1 = w') (hfr : 1 ≤ fr) (hfr2 : fr ≤ 64) :
    Calls Try.prog 83 #[.pointer (some ⟨x, 0, none⟩), .int .i64 e, .int .i64 of, .agg #[.int .i64 a, .int .i64 b, .int .i64 c, .int .i64 d]] w fun y w' =>
      y = .returned (.tuple #[.int .i64 fr, .int .i64 0]) ∧ ∃ v W, Mod (fun k => k = x) w W ∧ W.ownsRow w.heap.size 105 8 v (n + 1) (xs ++ [.int .i64 (last + 1), .int .i64 of, .int .i64 e, .int .i64 fr, .int .i64 a, .int .i64 b, .int .i64 c, .int .i64 d]) ∧
        W.heap[x]? = some (.cells #[.slice A n cap, .int .i64 (last + 1)] 28 (0, 0)) ∧ Same w' (W.setCell ⟨x, 0, none⟩ v) := by
  obtain ⟨i0, hi0, hz0, hz1, hz2⟩ := info_parts cInfo
  have h0 : w.cell? ⟨x, 0, none⟩ = some (.slice A n cap) := by rw [cell_of_heap hblk]; rfl
  have h1 : w.cell? ⟨x, 1, none⟩ = some (.int .i64 last) := by rw [cell_of_heap hblk]; rfl
  have hf0 : w.frozen? ⟨x, 0, none⟩ = false := frozen_of_heap hblk 0
  have hf1 : w.frozen? ⟨x, 1, none⟩ = false := frozen_of_heap hblk 1
  have hx := World.block_lt_of_cell? _ _ h0
  have hblk2 : (w.setCell ⟨x, 1, none⟩ (.int .i64 (last + 1))).heap[x]? = some (.cells #[.slice A n cap, .int .i64 (last + 1)] 28 (0, 0)) := heap_setCell_eq hblk
  have HBK := Lib.hid hblk2
  clear hblk hblk2
  have hb0 : Below w.heap.size w (w.alloc (.cells #[.int .i64 a, .int .i64 b, .int .i64 c, .int .i64 d] 30)) := (Below.refl _ _).alloc (Nat.le_refl _) _
  have hk := hfree _ hb0
  have hfri : ((fr : Int) == 0) = false := by rw [beq_eq_false_iff_ne]; omega
  clear hfree
  go_enter Try.func83, Try.ntmps83
  go_wp2_with fail
  refine hk.mono ?_
  rintro y w1 ⟨rfl, rfl⟩
  clear hk
  go_wp2_with fail
  obtain ⟨W, hW⟩ : ∃ W : World, W = (w.setCell ⟨x, 1, none⟩ (.int .i64 (last + 1))).alloc (.cells #[.int .i64 a, .int .i64 b, .int .i64 c, .int .i64 d] 30) := ⟨_, rfl⟩
  rw [← hW]
  have hWs : W.heap.size = w.heap.size + 1 := by rw [hW]; simp
  have HWB : Hid (W.heap[x]? = some (.cells #[.slice A n cap, .int .i64 (last + 1)] 28 (0, 0))) := by
    show W.heap[x]? = _
    rw [hW, heap_alloc, if_neg (by simp; omega)]
    exact HBK.out
  have hWm : Mod (fun k => k = x) w W := by rw [hW]; exact ((Mod.refl (fun k => k = x) w).setCell (p := ⟨x, 1, none⟩) (fun _ => rfl) _).alloc _
  have q0 : W.cell? ⟨x, 0, none⟩ = some (.slice A n cap) := by rw [hW, World.cell?_alloc_lt _ _ _ (by simpa using hx), World.cell?_setCell_other _ _ _ _ (by simp)]; exact h0
  have q1 : W.cell? ⟨x, 1, none⟩ = some (.int .i64 (last + 1)) := by rw [hW, World.cell?_alloc_lt _ _ _ (by simpa using hx), World.cell?_setCell_same _ _ _ h1]
  have qf : W.frozen? ⟨x, 0, none⟩ = false := by rw [hW, World.frozen?_alloc_old _ _ _ (by simp; omega), World.frozen?_setCell]; exact hf0
  have b0 : W.cell? ⟨w.heap.size, 0, none⟩ = some (.int .i64 a) := by rw [hW]; exact (cell_of_heap (t := 30) (fr := (0, 0)) (c := #[.int .i64 a, .int .i64 b, .int .i64 c, .int .i64 d]) (by rw [heap_alloc, if_pos (size_of_setCell _ _ _).symm]) 0)
  have b1 : W.cell? ⟨w.heap.size, 1, none⟩ = some (.int .i64 b) := by rw [hW]; exact (cell_of_heap (t := 30) (fr := (0, 0)) (c := #[.int .i64 a, .int .i64 b, .int .i64 c, .int .i64 d]) (by rw [heap_alloc, if_pos (size_of_setCell _ _ _).symm]) 1)
  have b2 : W.cell? ⟨w.heap.size, 2, none⟩ = some (.int .i64 c) := by rw [hW]; exact (cell_of_heap (t := 30) (fr := (0, 0)) (c := #[.int .i64 a, .int .i64 b, .int .i64 c, .int .i64 d]) (by rw [heap_alloc, if_pos (size_of_setCell _ _ _).symm]) 2)
  have b3 : W.cell? ⟨w.heap.size, 3, none⟩ = some (.int .i64 d) := by rw [hW]; exact (cell_of_heap (t := 30) (fr := (0, 0)) (c := #[.int .i64 a, .int .i64 b, .int .i64 c, .int .i64 d]) (by rw [heap_alloc, if_pos (size_of_setCell _ _ _).symm]) 3)
  have hsW : Src W 8 A n xs := hsrc.keep hWm.size (fun g o hg hlt => hWm.block g hlt (hAx g o hg))
  have hxW : x < W.heap.size := by omega
  have hBW : w.heap.size < W.heap.size := by omega
  clear hWs
  clear hW h0 h1 hf0 hf1 hsrc hb0
  go_region_law (first
      | ((refine step_append_src (by rfl) _ _ _ (by rfl) W.heap.size 105 i0 _ 8 64 Try.underlying26 hi0 hz0 hz1 hz2 rfl (by omega) (.slice none 0 0) 0 [] (by rfl) (World.ownsRow_nil _ _ _ _) A n cap xs (by rfl) hsW.drew hone (by unfold maxLen; omega) (by omega) (by simp) ?_; intro A1 c1 w1 hown1 hg1 hat1; have hK1 := Keep.grown hg1 rfl; have k0 := hK1.cell q0; have kf := hK1.frozen hxW qf; have kk1 := hK1.cell q1; have kb0 := hK1.cell b0; have kb1 := hK1.cell b1; have kb2 := hK1.cell b2; have kb3 := hK1.cell b3; have hs1 := hK1.size; simp only [Nat.zero_add, List.nil_append] at hown1 hat1; have tokA : True := trivial))
      | ((refine step_append_src (by rfl) _ _ _ (by rfl) W.heap.size 105 i0 _ 8 64 Try.underlying26 hi0 hz0 hz1 hz2 rfl (by omega) (.slice none 0 0) 0 [] (by rfl) (World.ownsRow_nil _ _ _ _) A n cap xs (by rfl) (hsW.alloc _).drew hone (by unfold maxLen; omega) (by omega) (by simp) ?_; intro A1 c1 w1 hown1 hg1 hat1; have hK1 := Keep.grown' hg1 rfl; have k0 := hK1.cell q0; have kf := hK1.frozen hxW qf; have kk1 := hK1.cell q1; have kb0 := hK1.cell b0; have kb1 := hK1.cell b1; have kb2 := hK1.cell b2; have kb3 := hK1.cell b3; have hs1 := hK1.size; simp only [Nat.zero_add, List.nil_append] at hown1 hat1; have tokB : True := trivial))
      | ((have _t := tokA; refine step_append_lies _ (by rfl) _ _ _ (by rfl) W.heap.size 105 i0 _ 8 64 Try.underlying26 hi0 hz0 hz1 hz2 rfl (by omega) (.slice A1 n c1) n xs (by rfl) (hown1.alloc _) ⟨w1.heap.size, 0, none⟩ 1 1 [.int .i64 (last + 1), .int .i64 of, .int .i64 e, .int .i64 fr, .int .i64 a, .int .i64 b, .int .i64 c, .int .i64 d] (by rfl) (by rfl) (World.news_of_block (cs := #[.int .i64 (last + 1), .int .i64 of, .int .i64 e, .int .i64 fr, .int .i64 a, .int .i64 b, .int .i64 c, .int .i64 d]) (t := 105) (fr := (0, 0)) (heap_alloc_new w1 _)) (by simp [Value.oneCell']) (by omega) (by unfold maxLen; omega) (by omega) (by rw [World.size_alloc]; omega) (w1.heap.size + 1) (World.size_alloc _ _) ?_; intro g2 c2 w2 hown2 hg2 hat2 hlt2; have hK2 := hK1.more' hg2 (fun k hk => (hown1.lt k hk).1); have z0 := hK2.cell q0; have zf := hK2.frozen hxW qf))
      | ((have _t := tokB; refine step_append_lies _ (by rfl) _ _ _ (by rfl) W.heap.size 105 i0 _ 8 64 Try.underlying26 hi0 hz0 hz1 hz2 rfl (by omega) (.slice A1 n c1) n xs (by rfl) hown1 ⟨W.heap.size, 0, none⟩ 1 1 [.int .i64 (last + 1), .int .i64 of, .int .i64 e, .int .i64 fr, .int .i64 a, .int .i64 b, .int .i64 c, .int .i64 d] (by rfl) (by rfl) (World.news_of_block (cs := #[.int .i64 (last + 1), .int .i64 of, .int .i64 e, .int .i64 fr, .int .i64 a, .int .i64 b, .int .i64 c, .int .i64 d]) (t := 105) (fr := (0, 0)) (Keep.box hg1 rfl)) (by simp [Value.oneCell']) (by omega) (by unfold maxLen; omega) (by omega) (hs1) (w1.heap.size) (rfl) ?_; intro g2 c2 w2 hown2 hg2 hat2 hlt2; have hK2 := hK1.more hg2 (fun k hk => (hown1.lt k hk).1); have z0 := hK2.cell q0; have zf := hK2.frozen hxW qf)))
  all_goals
    have hfin : Mod (fun k => k = x) w w2 := hWm.trans hK2.mod (fun _ _ h => h)
    have HZ := Lib.hid ((hK2.block x hxW).trans HWB.out)
    have hown3 := own_le hown2 (Nat.le_of_lt hBW)
    clear hown2 hown1 hg1 hg2 hat1 hat2 k0 kf kk1 kb0 kb1 kb2 kb3 q0 q1 qf b0 b1 b2 b3
    go_wp2
    go_ret2
    exact ⟨rfl, _, w2, hfin, hown3, HZ.out, rfl, rfl, rfl, rfl⟩

end Go.Proofs.Ytpclhecpfjkehaa
