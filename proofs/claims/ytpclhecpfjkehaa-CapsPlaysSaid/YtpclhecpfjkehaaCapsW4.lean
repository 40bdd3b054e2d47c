/- caps: put. -/
import Derived.Test.YtpclhecpfjkehaaCapsW3
namespace Go.Proofs.Ytpclhecpfjkehaa
open Go.RowKit

theorem put_room (b e s : Nat) (x0 x1 x2 x3 : Value) (p : Option Addr) (w : World) (he : e < 12) (h1 : 1 ≤ s) (h2 : s ≤ 64)
    (hold : ∀ j, 1 ≤ j → j < s → ∃ a, w.cell? ⟨b, e * 65 + j, none⟩ = some (.pointer (some a)))
    (hfree : w.cell? ⟨b, e * 65 + s, none⟩ = some (.pointer none)) (hfr : w.frozen? ⟨b, e * 65 + s, none⟩ = false) :
    Calls Try.prog 80 #[.pointer (some ⟨b, 0, none⟩), .int .i64 e, .agg #[x0, x1, x2, x3], .pointer p] w fun r w' =>
      r = .returned (.tuple #[.int .i64 s, .int .i64 0]) ∧
      Same w' (((w.setCell ⟨b, e * 65 + s, none⟩ (.pointer (some ⟨w.heap.size + 1, 0, none⟩))).alloc (.cells #[x0, x1, x2, x3] 30)).alloc (.cells #[x0, x1, x2, x3, .int .i64 e, .int .i64 s, .pointer p] 102)) := by
  have hlt : b < w.heap.size := World.block_lt_of_cell? _ _ hfree
  go_enter Try.func80, Try.ntmps80
  go_wp2
  go_loop [10] (fun i => ∃ k : Nat, 1 ≤ k ∧ k ≤ s ∧ i = .int .i64 k) (fun i => s + 1 - (intOf i).toNat)
  case atStart => exact ⟨1, by omega, h1, rfl⟩
  case round =>
    obtain ⟨k, hk1, hks, rfl⟩ := hrel
    by_cases hlt : k < s
    · obtain ⟨a, ha⟩ := hold k hk1 hlt
      clear hold hfree
      go_wp2
      go_round
      case rel => exact ⟨k + 1, by omega, by omega, by go_num⟩
      case measure => simp [intOf]; omega
    · obtain rfl : k = s := by omega
      clear hold
      go_wp2
      go_region
      all_goals go_wp2
      all_goals go_ret2
      all_goals exact ⟨rfl, rfl, rfl, rfl, rfl⟩

theorem put_full (b e : Nat) (x0 x1 x2 x3 : Value) (p : Option Addr) (w : World) (he : e < 12) (hlt : b < w.heap.size)
    (hold : ∀ j, 1 ≤ j → j ≤ 64 → ∃ a, w.cell? ⟨b, e * 65 + j, none⟩ = some (.pointer (some a))) :
    Calls Try.prog 80 #[.pointer (some ⟨b, 0, none⟩), .int .i64 e, .agg #[x0, x1, x2, x3], .pointer p] w fun r w' =>
      r = .returned (.tuple #[.int .i64 0, .int .i64 105]) ∧ Below w.heap.size w w' := by
  go_enter Try.func80, Try.ntmps80
  go_wp2
  go_loop [10] (fun i => ∃ k : Nat, 1 ≤ k ∧ k ≤ 65 ∧ i = .int .i64 k) (fun i => 66 - (intOf i).toNat)
  case atStart => exact ⟨1, by omega, by omega, rfl⟩
  case round =>
    obtain ⟨k, hk1, hks, rfl⟩ := hrel
    by_cases hlt : k ≤ 64
    · obtain ⟨a, ha⟩ := hold k hk1 hlt
      clear hold
      go_wp2
      go_round
      case rel => exact ⟨k + 1, by omega, by omega, by go_num⟩
      case measure => simp [intOf]; omega
    · clear hold
      go_wp2
      go_ret2
      exact ⟨rfl, (Below.refl _ _).alloc (Nat.le_refl _) _⟩

theorem ofPtr_congr {f g : Int → Nat} {of : Int} (h : of ≠ 0 → g of = f of) : ofPtr g of = ofPtr f of := by
  unfold ofPtr; split
  · rfl
  · rename_i h0; rw [h h0]

theorem nodeCells_congr {f g : Int → Nat} {c : CE} (h : c.of ≠ 0 → g c.of = f c.of) : nodeCells g c = nodeCells f c := by
  unfold nodeCells; rw [ofPtr_congr h]

theorem caps_put {w w' : World} {b : Nat} {M : CM} {F : Nat → Prop} {f : Int → Nat} (hw : M.WF) (hlt : ∀ k, F k → k < w.heap.size) (hr : Rep w b M.L f) (hFb : F b) (hFn : ∀ x ∈ M.L, F (f x.no))
    (e : Nat) (he : e < 12) (x : Cap) (hx : mayB x = true) (of : Int) (ho : of = 0 ∨ ∃ d ∈ M.L, d.no = of) (hfree : freeE M.L e ≠ 0) (o : Obj)
    (hal : Same w' (((w.setCell ⟨b, e * 65 + freeE M.L e, none⟩ (.pointer (some ⟨w.heap.size + 1, 0, none⟩))).alloc o).alloc (.cells #[.int .i64 x.kind, .int .i64 x.id, .int .i64 x.len, .int .i64 x.rights, .int .i64 e, .int .i64 (freeE M.L e : Nat), .pointer (ofPtr f of)] 102))) :
    Mod F w w' ∧ Caps w' b (M.put e x of).2 (New F w w') := by
  obtain ⟨h1, h2, h3, h4⟩ := freeE_pos hfree
  have hmod : Mod F w w' := ((((Mod.refl F w).setCell (fun _ => hFb) _).alloc _).alloc _).same hal
  have hsz : w'.heap.size = w.heap.size + 2 := by rw [hal.1]; simp [World.setCell, World.alloc]
  have hb := hlt b hFb
  have hnew : w'.heap[w.heap.size + 1]? = some (.cells #[.int .i64 x.kind, .int .i64 x.id, .int .i64 x.len, .int .i64 x.rights, .int .i64 e, .int .i64 (freeE M.L e : Nat), .pointer (ofPtr f of)] 102) := by
    rw [hal.1, heap_alloc, if_pos (by simp [World.setCell, World.alloc])]
  obtain ⟨c, hc1, hc2, hc3⟩ := hr.tab
  have htab : w'.heap[b]? = some (.cells (c.setIfInBounds (e * 65 + freeE M.L e) (.pointer (some ⟨w.heap.size + 1, 0, none⟩))) 88 (0, 0)) := by
    rw [hal.1, heap_alloc, if_neg (by simp [World.setCell, World.alloc]; omega), heap_alloc, if_neg (by simp [World.setCell]; omega), heap_setCell_eq hc1]
  have hold : ∀ k, k < w.heap.size → k ≠ b → w'.heap[k]? = w.heap[k]? := by
    intro k hk hkb
    rw [hal.1, heap_alloc, if_neg (by simp [World.setCell, World.alloc]; omega), heap_alloc, if_neg (by simp [World.setCell]; omega), heap_setCell_ne _ _ _ _ hkb]
  have hput : M.put e x of = ((((freeE M.L e : Nat) : Int), (0 : Int)), (⟨M.L ++ [⟨M.last + 1, of, e, (freeE M.L e : Nat), x⟩], M.last + 1⟩ : CM)) := by
    unfold CM.put; rw [if_neg hfree]
  have hwf := hw.put (e := (e : Int)) (of := of) (isB_nat he) hx ho
  rw [hput] at hwf ⊢
  have hfo : ∀ d ∈ M.L, (if d.no = M.last + 1 then w.heap.size + 1 else f d.no) = f d.no := by
    intro d hd; rw [if_neg (by have := hw.no d hd; omega)]
  refine ⟨hmod, hwf, ?_, fun n => if n = M.last + 1 then w.heap.size + 1 else f n, ⟨?_, ?_, ?_⟩, .inl hFb, ?_⟩
  · rintro k (hk | ⟨_, hk⟩)
    · have := hlt k hk; omega
    · exact hk
  · refine ⟨_, htab, by simp [hc2], fun e' s' he' hs' => ?_⟩
    rw [findE_append]
    by_cases hes : e' = e ∧ s' = freeE M.L e
    · obtain ⟨rfl, rfl⟩ := hes
      rw [h3]
      simp only [and_self, ↓reduceIte, ptrTo]
      exact Array.getElem?_setIfInBounds_self_of_lt (by omega)
    · have hne : e * 65 + freeE M.L e ≠ e' * 65 + s' := by omega
      rw [Array.getElem?_setIfInBounds_ne hne, hc3 e' s' he' hs']
      cases hf : findE M.L e' s' with
      | none =>
        rw [if_neg (by simp; omega)]
        rfl
      | some d =>
        obtain ⟨hd, _, _⟩ := findE_some hf
        simp only [ptrTo]
        rw [hfo d hd]
  · intro d hd
    simp only [List.mem_append, List.mem_singleton] at hd
    rcases hd with hd | rfl
    · have hd0 := hlt _ (hFn d hd)
      have hdb : f d.no ≠ b := by
        intro e1
        have := hr.node d hd
        rw [e1, hc1] at this
        injection this with this
        injection this with _ this
        exact absurd this (by decide)
      show w'.heap[if d.no = M.last + 1 then w.heap.size + 1 else f d.no]? = _
      rw [hfo d hd, hold _ hd0 hdb, hr.node d hd, nodeCells_congr]
      intro h0
      rcases hw.of d hd with h0' | ⟨p, hp, hp1, _⟩
      · exact absurd h0' h0
      · rw [← hp1]; exact (hfo p hp).symm
    · show w'.heap[if M.last + 1 = M.last + 1 then w.heap.size + 1 else f (M.last + 1)]? = _
      rw [if_pos rfl, hnew]
      unfold nodeCells
      rw [ofPtr_congr]
      intro h0
      rcases ho with h0' | ⟨p, hp, hp1⟩
      · exact absurd h0' h0
      · rw [← hp1]; exact (hfo p hp).symm
  · intro d hd d' hd' heq
    simp only [List.mem_append, List.mem_singleton] at hd hd'
    rcases hd with hd | rfl <;> rcases hd' with hd' | rfl
    · simp only [hfo d hd, hfo d' hd'] at heq
      exact hr.inj d hd d' hd' heq
    · simp only [hfo d hd, if_true] at heq
      have := hlt _ (hFn d hd); omega
    · simp only [hfo d' hd', if_true] at heq
      have := hlt _ (hFn d' hd'); omega
    · rfl
  · intro d hd
    simp only [List.mem_append, List.mem_singleton] at hd
    rcases hd with hd | rfl
    · show New F w w' (if d.no = M.last + 1 then w.heap.size + 1 else f d.no)
      rw [hfo d hd]; exact .inl (hFn d hd)
    · show New F w w' (if M.last + 1 = M.last + 1 then w.heap.size + 1 else f (M.last + 1))
      rw [if_pos rfl]; right; omega

theorem put_rep {w : World} {b : Nat} {M : CM} {F : Nat → Prop} {f : Int → Nat} (hw : M.WF) (hlt : ∀ k, F k → k < w.heap.size) (hr : Rep w b M.L f) (hFb : F b) (hFn : ∀ x ∈ M.L, F (f x.no))
    (e : Int) (he : isB e = true) (x : Cap) (hx : mayB x = true) (of : Int) (ho : of = 0 ∨ ∃ d ∈ M.L, d.no = of) :
    Calls Try.prog 80 #[.pointer (some ⟨b, 0, none⟩), .int .i64 e, .agg #[.int .i64 x.kind, .int .i64 x.id, .int .i64 x.len, .int .i64 x.rights], .pointer (ofPtr f of)] w fun r w' =>
      r = .returned (.tuple #[.int .i64 (M.put e x of).1.1, .int .i64 (M.put e x of).1.2]) ∧ Mod F w w' ∧ Caps w' b (M.put e x of).2 (New F w w') := by
  simp [isB] at he
  obtain ⟨e, rfl⟩ := Int.eq_ofNat_of_zero_le he.1
  have he : e < 12 := by omega
  by_cases hfree : freeE M.L e = 0
  · have hput : M.put e x of = (((0 : Int), (105 : Int)), M) := by unfold CM.put; rw [if_pos hfree]
    rw [hput]
    refine (put_full b e _ _ _ _ _ w he (hlt b hFb) ?_).mono ?_
    · intro j h1 h2
      obtain ⟨c, hc⟩ := freeE_zero hfree j h1 h2
      exact ⟨_, by rw [(hr.cell e j he (by omega)).1, hc]; rfl⟩
    · rintro r w' ⟨rfl, hbel⟩
      have hm : Mod F w w' := Mod.of_below hbel
      have hc : Caps w' b M F := Caps.below ⟨hw, hlt, f, hr, hFb, hFn⟩ hbel
      refine ⟨rfl, hm, hc.wf, ?_, ?_⟩
      · rintro k (hk | ⟨_, hk⟩)
        · exact hc.lt k hk
        · exact hk
      · obtain ⟨g, h1, h2, h3⟩ := hc.rep
        exact ⟨g, h1, .inl h2, fun y hy => .inl (h3 y hy)⟩
  · obtain ⟨h1, h2, h3, h4⟩ := freeE_pos hfree
    have hput : M.put e x of = ((((freeE M.L e : Nat) : Int), (0 : Int)), (⟨M.L ++ [⟨M.last + 1, of, e, (freeE M.L e : Nat), x⟩], M.last + 1⟩ : CM)) := by
      unfold CM.put; rw [if_neg hfree]
    obtain ⟨hc, hfr⟩ := hr.cell e (freeE M.L e) he (by omega)
    rw [h3] at hc
    refine (put_room b e (freeE M.L e) _ _ _ _ _ w he h1 h2 ?_ hc hfr).mono ?_
    · intro j h5 h6
      obtain ⟨c, hc⟩ := h4 j h5 h6
      exact ⟨_, by rw [(hr.cell e j he (by omega)).1, hc]; rfl⟩
    · rintro r w' ⟨rfl, hal⟩
      refine ⟨by rw [hput], caps_put hw hlt hr hFb hFn e he x hx of ho hfree _ hal⟩

end Go.Proofs.Ytpclhecpfjkehaa
