/- caps: Revoke. -/
import Derived.Test.YtpclhecpfjkehaaCapsW14
namespace Go.Proofs.Ytpclhecpfjkehaa
open Go.RowKit

def goneB (bs : List CE) (k : Nat) (c : CE) : Bool := (bs.take k).any fun d => d.no == c.no

/-- While Revoke clears the slots: k of bs are cleared. -/
structure ClrI (w2 : World) (b : Nat) (M : CM) (f : Int → Nat) (bs : List CE) (k : Nat) (wr : World) : Prop where
  mod : Mod (fun j => j = b) w2 wr
  tab : ∃ c, wr.heap[b]? = some (.cells c 88 (0, 0)) ∧ c.size = 780 ∧ ∀ e s : Nat, e < 12 → s < 65 → c[e * 65 + s]? = some (.pointer (ptrTo f (findE (M.L.filter fun c => !goneB bs k c) e s)))

theorem ClrI.step {w2 wr w3 : World} {b : Nat} {M : CM} {f : Int → Nat} {bs : List CE} {k : Nat} {d : CE} (hw : M.WF) (hbs : ∀ c ∈ bs, c ∈ M.L) (hd : bs[k]? = some d)
    (h : ClrI w2 b M f bs k wr) (h3 : Same w3 (wr.setCell ⟨b, d.env.toNat * 65 + d.slot.toNat, none⟩ (.pointer none))) : ClrI w2 b M f bs (k + 1) w3 := by
  have hdm := hbs d (List.mem_of_getElem? hd)
  have hde := hw.env d hdm
  have hgone : ∀ c, goneB bs (k + 1) c = (goneB bs k c || d.no == c.no) := by
    intro c
    unfold goneB
    rw [List.take_add_one, hd, List.any_append]
    simp
  obtain ⟨hm, c, h1, h2, h4⟩ := h
  refine ⟨(hm.setCell (fun _ => rfl) _).same h3, _, by rw [h3.1, heap_setCell_eq h1], by simp [h2], fun e s he hs => ?_⟩
  rw [findE_filterP hw]
  have h5 := h4 e s he hs
  rw [findE_filterP hw] at h5
  by_cases hes : e = d.env.toNat ∧ s = d.slot.toNat
  · obtain ⟨rfl, rfl⟩ := hes
    have e1 : ((d.env.toNat : Nat) : Int) = d.env := by omega
    have e2 : ((d.slot.toNat : Nat) : Int) = d.slot := by omega
    rw [e1, e2, findE_of hw hdm]
    simp only [Option.filter, hgone, beq_self_eq_true, Bool.or_true, Bool.not_true, Bool.false_eq_true, if_false, ptrTo]
    exact Array.getElem?_setIfInBounds_self_of_lt (by omega)
  · have hne : d.env.toNat * 65 + d.slot.toNat ≠ e * 65 + s := by omega
    rw [Array.getElem?_setIfInBounds_ne hne, h5]
    cases hf : findE M.L e s with
    | none => rfl
    | some y =>
      obtain ⟨hy, hye, hys⟩ := findE_some hf
      have hyd : (d.no == y.no) = false := by
        rw [beq_eq_false_iff_ne]
        intro heq
        have := hw.uno d hdm y hy heq
        subst this
        omega
      simp only [Option.filter, hgone, hyd, Bool.or_false]

set_option maxRecDepth 100000 in
set_option maxHeartbeats 400000 in
theorem revoke_any {w : World} {b : Nat} {M : CM} {F : Nat → Prop} (h : Caps w b M F) (e s : Int) :
    Calls Try.prog 51 #[.pointer (some ⟨b, 0, none⟩), .int .i64 e, .int .i64 s] w fun y w' =>
      y = .returned (.tuple #[.int .i64 (M.revoke e s).1.1, .int .i64 (M.revoke e s).1.2]) ∧ Mod F w w' ∧ Caps w' b (M.revoke e s).2 (New F w w') := by
  have h' := h
  obtain ⟨hw, hlt, f, hr, hFb, hFn⟩ := h'
  have hat := at_rep hw hr e s
  cases hf : findE M.L e s with
  | none =>
    rw [hf] at hat
    have hrev : M.revoke e s = (((0 : Int), (104 : Int)), M) := by unfold CM.revoke; rw [hf]
    rw [hrev]
    clear hr hFb hFn hrev hf
    go_enter Try.func51, Try.ntmps51
    go_wp2_with (go_at_call 61; refine hat.mono ?_; rintro y w' ⟨rfl, rfl⟩; simp only [ptrTo])
    go_ret2
    have hb0 : Below w.heap.size w (w.alloc (.cells #[.pointer none] 84)) := (Below.refl _ _).alloc (Nat.le_refl _) _
    exact ⟨rfl, Mod.of_below hb0, h.new hb0⟩
  | some t =>
    rw [hf] at hat
    obtain ⟨ht, hte, hts⟩ := findE_some hf
    have hrev : M.revoke e s = ((revCount M.L t.no, (0 : Int)), (⟨M.L.filter fun c => !underB M.L t.no c, M.last⟩ : CM)) := by unfold CM.revoke; rw [hf]
    have hwf := hw.revoke e s
    rw [hrev] at hwf ⊢
    have hbl := hlt b hFb
    have hstart : ∀ W : World, W = (w.alloc (.cells #[.pointer (some ⟨f t.no, 0, none⟩)] 84)).alloc (.cells #[.slice none 0 0] 99) → RevI w b M f t 0 W := by
      rintro W rfl
      refine ⟨((Below.refl _ _).alloc (Nat.le_refl _) _).alloc (by simp) _, [], fun c => by simp, List.Pairwise.nil, ⟨?_, ?_, ⟨.slice none 0 0, ?_, ?_⟩, by omega, by simp⟩⟩
      · intro y hy
        have := hr.nlt hy
        rw [heap_alloc, if_neg (by simp; omega), heap_alloc, if_neg (by omega)]
        exact hr.node y hy
      · rw [heap_alloc, if_neg (by simp), heap_alloc, if_pos rfl]
      · rw [heap_alloc, if_pos (by simp)]
      · exact World.ownsRow_nil _ _ _ _
    have hev := fun W hW => each_any 87 b call_revoke1 ⟨w.heap.size, 0, none⟩ ⟨w.heap.size + 1, 0, none⟩ (fun e' s' => ptrTo f (findE M.L e' s')) (RevI w b M f t)
      (fun k w' hI e' s' he' hs' => by
        rw [hI.mod.cell hbl]; exact (hr.cell e' s' he' hs').1)
      (fun e' s' w' _ hs' hn hI => hI.skip hw hs' (by
        cases hq : findE M.L e' s' with
        | none => rfl
        | some x => rw [hq] at hn; cases hn))
      (fun e' s' a w' _ hs' hn hI => hI.call hw ht hr hs' hn) W (hstart W hW)
    clear hstart
    go_enter Try.func51, Try.ntmps51
    go_wp2_with (go_at_call 61; refine hat.mono ?_; rintro y w' ⟨rfl, rfl⟩; simp only [ptrTo])
    refine (hev _ rfl).mono ?_
    rintro y w2 ⟨rfl, hI⟩
    obtain ⟨hm, bs, hb1, hb2, hb3⟩ := hI
    have hbs : ∀ c ∈ bs, c ∈ M.L := fun c hc => ((hb1 c).1 hc).1
    have hlen := len_le_780 hw hbs hb2
    obtain ⟨hnode, htop, ⟨v, hbad, hown⟩, hltB, hszB⟩ := hb3
    have hcount : revCount M.L t.no = (bs.length : Nat) := by
      unfold revCount
      refine congrArg Int.ofNat (Eq.symm ?_)
      refine ((List.perm_ext_iff_of_nodup (hb2.imp fun h e => h (congrArg CE.no e)) (hw.nodup.filter _)).2 fun c => ?_).length_eq
      rw [hb1 c, List.mem_filter]
      constructor
      · rintro ⟨a1, a2, _⟩; exact ⟨a1, a2⟩
      · rintro ⟨a1, a2⟩; exact ⟨a1, a2, idx_lt hw a1⟩
    have HC := Lib.hid hcount
    have hclr0 : ClrI w2 b M f bs 0 w2 := by
      obtain ⟨c, h1, h2, h3⟩ := hr.tab
      refine ⟨Mod.refl _ _, c, by rw [hm.block b hbl]; exact h1, h2, fun e' s' he' hs' => ?_⟩
      rw [findE_filterP hw]
      have : (fun c => !goneB bs 0 c) = fun _ => true := by funext c; simp [goneB]
      rw [this]
      have h4 := h3 e' s' he' hs'
      cases hq : findE M.L e' s' with
      | none => rw [hq] at h4; exact h4
      | some c => rw [hq] at h4; exact h4
    have hfin : ∀ wr : World, ClrI w2 b M f bs bs.length wr → Mod F w wr ∧ Caps wr b ⟨M.L.filter fun c => !underB M.L t.no c, M.last⟩ (New F w wr) := by
      rintro wr ⟨hm2, c, h1, h2, h3⟩
      have hm3 : Mod F w wr := (Mod.of_below hm).trans hm2 (fun i _ h => by subst h; exact hFb)
      have hL : (M.L.filter fun c => !goneB bs bs.length c) = M.L.filter fun c => !underB M.L t.no c := by
        refine List.filter_congr fun c hc => ?_
        congr 1
        rw [Bool.eq_iff_iff]
        unfold goneB
        rw [List.take_length, List.any_eq_true]
        constructor
        · rintro ⟨d, hd, hdc⟩
          have hd' := (hb1 d).1 hd
          have := hw.uno d hd'.1 c hc (by simpa using hdc)
          subst this
          exact hd'.2.1
        · intro hu
          exact ⟨c, (hb1 c).2 ⟨hc, hu, idx_lt hw hc⟩, by simp⟩
      rw [hL] at h3
      have hnb : ∀ x ∈ M.L, f x.no ≠ b := by
        intro x hx e1
        obtain ⟨c, h4, _⟩ := hr.tab
        have := hr.node x hx
        rw [e1, h4] at this
        injection this with this
        injection this with _ this
        exact absurd this (by decide)
      refine ⟨hm3, hwf, fun k hk => New.lt hlt hm3.size k hk, f, ⟨⟨c, h1, h2, h3⟩, ?_, ?_⟩, .inl hFb, ?_⟩
      · intro x hx
        have hx' := (List.mem_filter.1 hx).1
        rw [hm2.block _ (by have := hlt _ (hFn x hx'); have := hm.size; omega) (hnb x hx')]
        exact hnode x hx'
      · intro x hx y hy
        exact hr.inj x (List.mem_filter.1 hx).1 y (List.mem_filter.1 hy).1
      · intro x hx
        exact .inl (hFn x (List.mem_filter.1 hx).1)
    have k1 : w2.cell? ⟨w.heap.size + 1, 0, none⟩ = some v := by rw [cell_of_heap hbad]; rfl
    have hmsz := hm.size
    have hvs : ∃ A c, v = .slice A bs.length c ∧ (0 < bs.length → ∃ g, A = some ⟨g, 0, none⟩ ∧ w.heap.size + 2 ≤ g ∧ g < w2.heap.size ∧ ∀ j d, bs[j]? = some d → w2.cell? ⟨g, j, none⟩ = some (nptr f d)) := by
      have hl : (bs.map (nptr f)).length = bs.length := by simp
      rw [hl] at hown
      by_cases h0 : 0 < bs.length
      · obtain ⟨g, cap, hv, h1, h2⟩ := hown.form h0
        refine ⟨_, _, hv, fun _ => ⟨g, rfl, h1, h2, fun j d hd => ?_⟩⟩
        have := hown.cells (g := g) (by rw [hv]; rfl) j (nptr f d) (by simp [hd])
        rw [add_mk] at this
        simpa using this
      · rcases hown.2 with ⟨hv, h1⟩ | ⟨g, cap, cur, hv, _⟩
        · exact ⟨none, 0, by rw [hv, h1], fun h => absurd h h0⟩
        · exact ⟨_, _, hv, fun h => absurd h h0⟩
    obtain ⟨A, cap, rfl, hA⟩ := hvs
    have hbr : ∀ x ∈ M.L, f x.no ≠ b := by
      intro x hx e1
      obtain ⟨c, h4, _⟩ := hr.tab
      have := hr.node x hx
      rw [e1, h4] at this
      injection this with this
      injection this with _ this
      exact absurd this (by decide)
    have HF := Lib.hid hFn
    clear hev hat hown hb1 hcount hrev hr htop hwf hFn
    go_wp2
    go_loopw [25] (fun u wr => ∃ k : Nat, k ≤ bs.length ∧ u = .int .i64 k ∧ ClrI w2 b M f bs k wr) (fun u _ => bs.length - (intOf u).toNat)
    case atStart => exact ⟨0, by omega, rfl, hclr0⟩
    case round =>
      obtain ⟨k, hk, rfl, hI⟩ := hrel
      clear hclr0
      by_cases hlt2 : k < bs.length
      · obtain ⟨g, rfl, hg1, hg2, hgc⟩ := hA (by omega)
        have hd : bs[k]? = some bs[k] := List.getElem?_eq_getElem hlt2
        obtain ⟨d, hdd⟩ : ∃ d, d = bs[k] := ⟨_, rfl⟩
        rw [← hdd] at hd
        clear hdd
        have hdm := hbs d (List.mem_of_getElem? hd)
        have hde := hw.env d hdm
        have hgk := hgc k d hd
        have hdl := hnode d hdm
        have hdb := hbr d hdm
        have hdlt : f d.no < w2.heap.size := lt_of_heap hdl
        have r1 : wr.cell? ⟨g, k, none⟩ = some (nptr f d) := by
          rw [hI.mod.cell hg2 (show ¬ g = b by omega)]; exact hgk
        have hnodeR : wr.heap[f d.no]? = some (.cells (nodeCells f d) 102 (0, 0)) := by
          rw [hI.mod.block _ hdlt hdb]; exact hdl
        obtain ⟨en, hen⟩ := Int.eq_ofNat_of_zero_le hde.1
        obtain ⟨sn, hsn⟩ := Int.eq_ofNat_of_zero_le (show 0 ≤ d.slot by omega)
        have r4 : wr.cell? ⟨f d.no, 4, none⟩ = some (.int .i64 en) := by rw [cell_of_heap hnodeR, ← hen]; rfl
        have r5 : wr.cell? ⟨f d.no, 5, none⟩ = some (.int .i64 sn) := by rw [cell_of_heap hnodeR, ← hsn]; rfl
        have hen12 : en < 12 := by omega
        have hsn65 : sn < 65 := by omega
        have ie1 : (en : Int) < 12 := by omega
        have ie2 : (sn : Int) < 65 := by omega
        obtain ⟨c, ht1, ht2, ht3⟩ := hI.tab
        have ht4 := ht3 en sn hen12 hsn65
        obtain ⟨pp, hpp⟩ : ∃ pp, pp = ptrTo f (findE (M.L.filter fun c => !goneB bs k c) en sn) := ⟨_, rfl⟩
        rw [← hpp] at ht4
        have r6 : wr.cell? ⟨b, en * 65 + sn, none⟩ = some (.pointer pp) := by rw [cell_of_heap ht1]; exact ht4
        have r7 : wr.frozen? ⟨b, en * 65 + sn, none⟩ = false := frozen_of_heap ht1 _
        have hstep := fun (w3 : World) (h3 : Same w3 (wr.setCell ⟨b, d.env.toNat * 65 + d.slot.toNat, none⟩ (.pointer none))) => ClrI.step hw hbs hd hI h3
        rw [hen, hsn] at hstep
        simp only [Int.toNat_natCast] at hstep
        simp only [nptr] at r1
        clear hgc hd hgk hdl hnodeR hen hsn ht1 ht2 ht3 ht4 hpp hI hnode hbr hA hde
        go_wp2
        go_still_tail 13, (by kernel_rfl)
        go_wp2
        go_roundw
        case rel => exact ⟨k + 1, by omega, by go_num, hstep _ ⟨rfl, rfl, rfl, rfl⟩⟩
        case measure => simp [intOf]; omega
      · have hkn : k = bs.length := by omega
        subst hkn
        obtain ⟨hm3, hc3⟩ := hfin wr hI
        have k2 : wr.cell? ⟨w.heap.size + 1, 0, none⟩ = some (.slice A bs.length cap) := by
          rw [hI.mod.cell (show w.heap.size + 1 < _ by omega) (show ¬ w.heap.size + 1 = b by omega)]; exact k1
        clear hfin hI hA hnode hbr k1 hbad
        go_wp2
        go_ret2
        exact ⟨by rw [HC.out]; rfl, hm3, hc3⟩

end Go.Proofs.Ytpclhecpfjkehaa
