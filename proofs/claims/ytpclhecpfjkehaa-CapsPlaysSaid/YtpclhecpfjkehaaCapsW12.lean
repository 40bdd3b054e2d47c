/- caps: Drop. -/
import Derived.Test.YtpclhecpfjkehaaCapsW11
namespace Go.Proofs.Ytpclhecpfjkehaa
open Go.RowKit

/-- Behind k slots of Drop's 'each'. -/
structure DropI (w : World) (F : Nat → Prop) (b : Nat) (M : CM) (f : Int → Nat) (g : CE) (k : Nat) (w' : World) : Prop where
  mod : Mod F w w'
  sz : w.heap.size + 2 ≤ w'.heap.size
  tab : ∃ c, w'.heap[b]? = some (.cells c 88 (0, 0)) ∧ c.size = 780 ∧ ∀ e s : Nat, e < 12 → s < 65 → c[e * 65 + s]? = some (.pointer (ptrTo f (findE (M.L.filter fun c => !(c.no == g.no)) e s)))
  gone : w'.heap[w.heap.size]? = some (.cells #[.pointer (some ⟨f g.no, 0, none⟩)] 84 (0, 0))
  last : w'.heap[w.heap.size + 1]? = some (.cells #[.bool ((M.L.filter fun c => !(c.no == g.no)).all fun c => !(decide (idx c < k) && meetB c.x g.x))] 4 (0, 0))
  old : w'.heap[f g.no]? = some (.cells (nodeCells f g) 102 (0, 0))
  node : ∀ x ∈ M.L, x.no ≠ g.no → w'.heap[f x.no]? = some (.cells (nodeCells f (if idx x < k then reof g x else x)) 102 (0, 0))

theorem all_congr {L : List CE} {p q : CE → Bool} (h : ∀ c ∈ L, p c = q c) : L.all p = L.all q := by
  rw [Bool.eq_iff_iff, List.all_eq_true, List.all_eq_true]
  constructor
  · intro h1 c hc; rw [← h c hc]; exact h1 c hc
  · intro h1 c hc; rw [h c hc]; exact h1 c hc

theorem DropI.skip {w : World} {F : Nat → Prop} {b : Nat} {M : CM} {f : Int → Nat} {g : CE} {e s : Nat} {w' : World} (hw : M.WF) (hs : s < 65)
    (hn : findE (M.L.filter fun c => !(c.no == g.no)) e s = none) (h : DropI w F b M f g (e * 65 + s) w') : DropI w F b M f g (e * 65 + s + 1) w' := by
  have hk : ∀ x ∈ M.L, x.no ≠ g.no → (idx x < e * 65 + s + 1 ↔ idx x < e * 65 + s) := by
    intro x hx hne
    have h1 : idx x ≠ e * 65 + s := by
      intro he
      have he' := (idx_of hw hx hs).1 he
      exact findE_none hn x (by simp [List.mem_filter, hx, hne]) he'
    omega
  refine ⟨h.mod, h.sz, h.tab, h.gone, ?_, h.old, ?_⟩
  · rw [h.last]
    congr 4
    refine congrArg Value.bool (all_congr fun c hc => ?_)
    simp only [List.mem_filter] at hc
    have := hk c hc.1 (by simpa using hc.2)
    simp [this]
  · intro x hx hne
    rw [h.node x hx hne]
    have := hk x hx hne
    by_cases h1 : idx x < e * 65 + s
    · rw [if_pos h1, if_pos (this.2 h1)]
    · rw [if_neg h1, if_neg (fun h2 => h1 (this.1 h2))]

theorem DropI.call {w : World} {F : Nat → Prop} {b : Nat} {M : CM} {f : Int → Nat} {g : CE} {e s : Nat} {a : Addr} {w' : World} (hw : M.WF) (hgm : g ∈ M.L) (hFlt : ∀ k, F k → k < w.heap.size) (hFb : F b)
    (hFn : ∀ x ∈ M.L, F (f x.no)) (hinj : ∀ x ∈ M.L, ∀ y ∈ M.L, f x.no = f y.no → x.no = y.no) (hs : s < 65)
    (hn : ptrTo f (findE (M.L.filter fun c => !(c.no == g.no)) e s) = some a) (h : DropI w F b M f g (e * 65 + s) w') :
    Calls Try.prog 85 #[.pointer (some a), .pointer (some ⟨w.heap.size, 0, none⟩), .pointer (some ⟨w.heap.size + 1, 0, none⟩)] w' fun y w2 =>
      y = .returned (.tuple #[]) ∧ DropI w F b M f g (e * 65 + s + 1) w2 := by
  cases hf : findE (M.L.filter fun c => !(c.no == g.no)) e s with
  | none => rw [hf] at hn; cases hn
  | some x =>
    rw [hf] at hn
    injection hn with hn
    subst hn
    obtain ⟨hxf, hxe, hxs⟩ := findE_some hf
    simp only [List.mem_filter] at hxf
    obtain ⟨hx, hxg⟩ := hxf
    have hxg : x.no ≠ g.no := by simpa using hxg
    have hix : idx x = e * 65 + s := (idx_of hw hx hs).2 ⟨hxe, hxs⟩
    have hnx := h.node x hx hxg
    rw [if_neg (by omega)] at hnx
    have hFx := hFlt _ (hFn x hx)
    have hgno := hw.no g hgm
    refine (drop1' (hw.may x hx) (hw.may g hgm) hnx h.old h.gone h.last ?_ ?_ (by omega)).mono ?_
    · intro h0
      rcases hw.of x hx with h1 | ⟨p, hp, hp1, _⟩
      · exact absurd h1 h0
      · by_cases hpg : p.no = g.no
        · rw [← hp1, hpg]; exact ⟨_, h.old⟩
        · rw [← hp1]; exact ⟨_, h.node p hp hpg⟩
    · constructor
      · rintro ⟨h0, h1⟩
        rcases hw.of x hx with h2 | ⟨p, hp, hp1, _⟩
        · exact absurd h2 h0
        · rw [← hp1] at h1 ⊢
          exact hinj p hp g hgm h1
      · intro h0
        rw [h0]; exact ⟨by omega, rfl⟩
    · rintro y w2 ⟨rfl, hm, hN, hL⟩
      have hsz := h.sz
      have hkeep : ∀ j, j < w'.heap.size → j ≠ f x.no → j ≠ w.heap.size + 1 → w2.heap[j]? = w'.heap[j]? := fun j h1 h2 h3 => hm.block j h1 (fun h4 => h4.elim h2 h3)
      have hbx : b ≠ f x.no := by
        intro e1
        obtain ⟨c, h1, _⟩ := h.tab
        rw [e1, hnx] at h1
        injection h1 with h1
        injection h1 with _ h1
        exact absurd h1 (by decide)
      have hFb' := hFlt b hFb
      refine ⟨rfl, h.mod.trans hm ?_, Nat.le_trans hsz hm.size, ?_, ?_, ?_, ?_, ?_⟩
      · rintro i hi (rfl | rfl)
        · exact hFn x hx
        · omega
      · obtain ⟨c, h1, h2⟩ := h.tab
        exact ⟨c, (hkeep b (by omega) hbx (by omega)).trans h1, h2⟩
      · rw [hkeep _ (by omega) (by omega) (by omega)]; exact h.gone
      · rw [hL]
        congr 4
        refine congrArg Value.bool ?_
        rw [Bool.eq_iff_iff]
        simp only [Bool.and_eq_true, List.all_eq_true, Bool.not_eq_true', Bool.and_eq_false_iff, decide_eq_false_iff_not]
        constructor
        · rintro ⟨h1, h2⟩ c hc
          by_cases hcx : c = x
          · subst hcx; exact .inr h2
          · rcases h1 c hc with h3 | h3
            · left
              have : idx c ≠ e * 65 + s := by
                intro h4
                simp only [List.mem_filter] at hc
                have h5 := (idx_of hw hc.1 hs).1 h4
                exact hcx (hw.upl c hc.1 x hx (by omega) (by omega))
              omega
            · exact .inr h3
        · intro h1
          refine ⟨fun c hc => ?_, ?_⟩
          · rcases h1 c hc with h3 | h3
            · left; omega
            · exact .inr h3
          · rcases h1 x (by simp [List.mem_filter, hx, hxg]) with h3 | h3
            · omega
            · exact h3
      · have hgx : f g.no ≠ f x.no := fun e1 => hxg (hinj g hgm x hx e1).symm
        have := hFlt _ (hFn g hgm)
        rw [hkeep _ (by omega) hgx (by omega)]; exact h.old
      · intro z hz hzg
        by_cases hzx : z = x
        · subst hzx
          rw [if_pos (by omega), hN]
        · have hzx' : f z.no ≠ f x.no := fun e1 => hzx (hw.uno z hz x hx (hinj z hz x hx e1))
          have := hFlt _ (hFn z hz)
          rw [hkeep _ (by omega) hzx' (by omega), h.node z hz hzg]
          have hne : idx z ≠ e * 65 + s := by
            intro h4
            have h5 := (idx_of hw hz hs).1 h4
            exact hzx (hw.upl z hz x hx (by omega) (by omega))
          by_cases h1 : idx z < e * 65 + s
          · rw [if_pos h1, if_pos (by omega)]
          · rw [if_neg h1, if_neg (by omega)]

theorem drop_any {w : World} {b : Nat} {M : CM} {F : Nat → Prop} (h : Caps w b M F) (e s : Int) :
    Calls Try.prog 49 #[.pointer (some ⟨b, 0, none⟩), .int .i64 e, .int .i64 s] w fun y w' =>
      y = .returned (.tuple #[.bool (M.drop e s).1.1, .int .i64 (M.drop e s).1.2]) ∧ Mod F w w' ∧ Caps w' b (M.drop e s).2 (New F w w') := by
  have h' := h
  obtain ⟨hw, hlt, f, hr, hFb, hFn⟩ := h'
  have hat := at_rep hw hr e s
  cases hf : findE M.L e s with
  | none =>
    rw [hf] at hat
    have hdrop : M.drop e s = ((false, (104 : Int)), M) := by unfold CM.drop; rw [hf]
    rw [hdrop]
    clear hr hFb hFn hdrop hf
    go_enter Try.func49, Try.ntmps49
    go_wp2_with (go_at_call 61; refine hat.mono ?_; rintro y w' ⟨rfl, rfl⟩; simp only [ptrTo])
    go_ret2
    have hb0 : Below w.heap.size w (w.alloc (.cells #[.pointer none] 84)) := (Below.refl _ _).alloc (Nat.le_refl _) _
    exact ⟨rfl, Mod.of_below hb0, h.new hb0⟩
  | some g =>
    rw [hf] at hat
    obtain ⟨hg, hge, hgs⟩ := findE_some hf
    have hen := hw.env g hg
    obtain ⟨e, rfl⟩ := Int.eq_ofNat_of_zero_le (show 0 ≤ e by omega)
    obtain ⟨s, rfl⟩ := Int.eq_ofNat_of_zero_le (show 0 ≤ s by omega)
    have hdrop : M.drop e s = ((dropLast M.L g, (0 : Int)), (⟨(M.L.filter fun c => !(c.no == g.no)).map (reof g), M.last⟩ : CM)) := by unfold CM.drop; rw [hf]
    rw [hdrop]
    have hbl := hlt b hFb
    obtain ⟨c, hc1, hc2, hc3⟩ := hr.tab
    -- the world in which 'each' is called
    have hstart : ∀ W : World, W = ((w.setCell ⟨b, e * 65 + s, none⟩ (.pointer none)).alloc (.cells #[.pointer (some ⟨f g.no, 0, none⟩)] 84)).alloc (.cells #[.bool true] 4) → DropI w F b M f g 0 W := by
      rintro W rfl
      have hnb : ∀ x ∈ M.L, f x.no ≠ b := by
        intro x hx e1
        have := hr.node x hx
        rw [e1, hc1] at this
        injection this with this
        injection this with _ this
        exact absurd this (by decide)
      have hk : ∀ x ∈ M.L, (((w.setCell ⟨b, e * 65 + s, none⟩ (.pointer none)).alloc (.cells #[.pointer (some ⟨f g.no, 0, none⟩)] 84)).alloc (.cells #[.bool true] 4)).heap[f x.no]? = some (.cells (nodeCells f x) 102 (0, 0)) := by
        intro x hx
        have := hlt _ (hFn x hx)
        rw [heap_alloc, if_neg (by simp; omega), heap_alloc, if_neg (by simp; omega), heap_setCell_ne _ _ _ _ (hnb x hx)]
        exact hr.node x hx
      refine ⟨(((Mod.refl F w).setCell (fun _ => hFb) _).alloc _).alloc _, by simp, ⟨c.setIfInBounds (e * 65 + s) (.pointer none), ?_, by simp [hc2], ?_⟩, ?_, ?_, hk g hg, ?_⟩
      · rw [heap_alloc, if_neg (by simp; omega), heap_alloc, if_neg (by simp; omega), heap_setCell_eq hc1]
      · intro e' s' he' hs'
        rw [findE_filter hw hg]
        by_cases hes : e' = e ∧ s' = s
        · obtain ⟨rfl, rfl⟩ := hes
          rw [if_pos ⟨hge, hgs⟩]
          exact Array.getElem?_setIfInBounds_self_of_lt (by omega)
        · have hne : e * 65 + s ≠ e' * 65 + s' := by omega
          rw [if_neg (by omega), Array.getElem?_setIfInBounds_ne hne]
          exact hc3 e' s' he' hs'
      · rw [heap_alloc, if_neg (by simp), heap_alloc, if_pos (by simp)]
      · rw [heap_alloc, if_pos (by simp)]
        congr 4
        refine congrArg Value.bool ?_
        symm
        rw [List.all_eq_true]
        intro x _
        simp
      · intro x hx _
        rw [if_neg (by omega)]
        exact hk x hx
    have hev := fun W hW => each_any 85 b call_drop1 ⟨w.heap.size, 0, none⟩ ⟨w.heap.size + 1, 0, none⟩ (fun e' s' => ptrTo f (findE (M.L.filter fun c => !(c.no == g.no)) e' s')) (DropI w F b M f g)
      (fun k w' hI e' s' he' hs' => by
        obtain ⟨c', h1, _, h3⟩ := hI.tab
        rw [cell_of_heap h1]; exact h3 e' s' he' hs')
      (fun e' s' w' _ hs' hn hI => hI.skip hw hs' (by
        cases hq : findE (M.L.filter fun c => !(c.no == g.no)) e' s' with
        | none => rfl
        | some x => rw [hq] at hn; cases hn))
      (fun e' s' a w' _ hs' hn hI => hI.call hw hg hlt hFb hFn hr.inj hs' hn) W (hstart W hW)
    have hcell := hr.cell e s (by omega) (by omega)
    obtain ⟨hcl, hcf⟩ := hcell
    have hfin : ∀ w' : World, DropI w F b M f g 780 w' → Mod F w w' ∧ Caps w' b ⟨(M.L.filter fun c => !(c.no == g.no)).map (reof g), M.last⟩ (New F w w') ∧
        w'.cell? ⟨w.heap.size + 1, 0, none⟩ = some (.bool (dropLast M.L g)) := by
      intro w' hI
      have hwf := hw.drop e s
      rw [hdrop] at hwf
      refine ⟨hI.mod, ⟨hwf, fun k hk => New.lt hlt hI.mod.size k hk, f, ⟨?_, ?_, ?_⟩, .inl hFb, ?_⟩, ?_⟩
      · obtain ⟨c', h1, h2, h3⟩ := hI.tab
        refine ⟨c', h1, h2, fun e' s' he' hs' => ?_⟩
        rw [findE_map, ptrTo_map]
        exact h3 e' s' he' hs'
      · intro y hy
        obtain ⟨x, hx, hxg, rfl⟩ := mem_drop.1 hy
        rw [reof_no, hI.node x hx hxg, if_pos (idx_lt hw hx)]
      · intro y hy y' hy' heq
        obtain ⟨x, hx, hxg, rfl⟩ := mem_drop.1 hy
        obtain ⟨x', hx', hxg', rfl⟩ := mem_drop.1 hy'
        rw [reof_no, reof_no] at heq ⊢
        exact hr.inj x hx x' hx' heq
      · intro y hy
        obtain ⟨x, hx, hxg, rfl⟩ := mem_drop.1 hy
        rw [reof_no]; exact .inl (hFn x hx)
      · rw [cell_of_heap hI.last]
        simp only [List.getElem?_toArray, List.getElem?_cons_zero, Option.some.injEq, Value.bool.injEq]
        unfold dropLast
        refine all_congr fun x hx => ?_
        simp only [List.mem_filter] at hx
        simp [idx_lt hw hx.1]
    clear hstart hdrop hc3 hc1 hc2 hr hFn
    go_enter Try.func49, Try.ntmps49
    go_wp2_with (go_at_call 61; refine hat.mono ?_; rintro y w' ⟨rfl, rfl⟩; simp only [ptrTo])
    refine (hev _ rfl).mono ?_
    rintro y w2 ⟨rfl, hI⟩
    obtain ⟨hmod, hcaps, hlast⟩ := hfin w2 hI
    clear hI hfin hev hat hcl hcf
    go_wp2
    go_ret2
    exact ⟨rfl, hmod, hcaps⟩

end Go.Proofs.Ytpclhecpfjkehaa
