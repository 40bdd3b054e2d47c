/- janusref08.Revoke. -/
import Derived.Test.YtpclhecpfjkehaaRefW10
import Derived.Laws.OwnMore
namespace Go.Proofs.Ytpclhecpfjkehaa
open Go.RowKit

theorem own_same {w w' : World} {base size n : Nat} {e : TypeId} {v : Value} {xs : List Value} (h : w.ownsRow base e size v n xs) (hs : Same w' w) : w'.ownsRow base e size v n xs :=
  own_mod (G := fun _ => False) h ((Mod.refl (fun _ => False) w).same hs) (fun _ _ h => h)

theorem own_form {w : World} {base size n : Nat} {e : TypeId} {v : Value} {xs : List Value} (h : w.ownsRow base e size v n xs) : ∃ A c, v = .slice A n c := by
  rcases h.2 with ⟨hv, h0⟩ | ⟨g, cap, cur, hv, _⟩
  · exact ⟨none, 0, by rw [hv, h0]⟩
  · exact ⟨_, _, hv⟩

theorem revFin {w wr : World} {x : Nat} {M : CM} {F : Nat → Prop} {e s : Int} {d : CE} {v : Value} (h : RCaps w x M F) (hf : findE M.L e s = some d) (hb : Below w.heap.size w wr)
    (hown : wr.ownsRow w.heap.size 105 8 v (M.L.filter fun c => !underB M.L d.no c).length (rcells (M.L.filter fun c => !underB M.L d.no c))) :
    Mod F w (wr.setCell ⟨x, 0, none⟩ v) ∧ RCaps (wr.setCell ⟨x, 0, none⟩ v) x (M.revoke e s).2 (New F w (wr.setCell ⟨x, 0, none⟩ v)) := by
  have hwf := h.wf.revoke e s
  have hM : (M.revoke e s).2 = ⟨M.L.filter fun c => !underB M.L d.no c, M.last⟩ := by unfold CM.revoke; rw [hf]
  rw [hM] at hwf ⊢
  obtain ⟨q1, q2, q3, v0, q4, q5, q6⟩ := h
  have hm : Mod F w (wr.setCell ⟨x, 0, none⟩ v) := (Mod.of_below (F := F) hb).setCell (p := ⟨x, 0, none⟩) (fun _ => q3) v
  have hxl := q2 x q3
  refine ⟨hm, hwf, fun k hk => New.lt q2 hm.size k hk, .inl q3, v, ?_, ?_, ?_⟩
  · rw [heap_setCell_eq ((hb.block x hxl).trans q4)]; rfl
  · have ho := own_le hown (Nat.zero_le _)
    refine own_mod ho (G := fun k => k = x) ((Mod.refl (fun k => k = x) wr).setCell (p := ⟨x, 0, none⟩) (fun _ => rfl) _) ?_
    intro k hk hkx
    have := (hown.lt k hk).1
    omega
  · intro k hk
    have := hown.lt k hk
    exact .inr ⟨this.1, by rw [size_of_setCell]; exact this.2⟩

theorem rcells_snoc (L : List CE) (c : CE) : rcells (L ++ [c]) = rcells L ++ rcell c := by rw [rcells_append]; simp [rcells]

theorem rcell_one (c : CE) : ∀ u ∈ rcell c, u.oneCell' = true := by
  intro u hu
  exact rcells_one [c] u (by simpa [rcells] using hu)

/-- Revoke's search: the state at the head of a round. -/
def SrchI (w : World) (L : List CE) (t : Int) (b n : Value) (wr : World) (bad : List Int) : Prop :=
  BadI L t bad ∧ Below w.heap.size w wr ∧ wr.ownsRow w.heap.size 3 1 b bad.length (rowV bad) ∧ n = .int .i64 ((bad.length : Int) - 1)

def FullB (L : List CE) (bad : List Int) (k : Nat) : Prop := ∀ j, j < k → ∀ c, L[j]? = some c → c.of ∈ bad → c.no ∈ bad

def OutI (w : World) (L : List CE) (t : Int) (b n m : Value) (wr : World) : Prop :=
  ∃ bad : List Int, SrchI w L t b n wr bad ∧ (m = .bool true ∨ (m = .bool false ∧ FullB L bad L.length))

def InI (w : World) (L : List CE) (t : Int) (bad0 : List Int) (b n m i : Value) (wr : World) : Prop :=
  ∃ (bad : List Int) (k : Nat), SrchI w L t b n wr bad ∧ k ≤ L.length ∧ i = .int .i64 k ∧ bad0.length ≤ bad.length ∧ ((m = .bool true ∧ bad0.length < bad.length) ∨ (m = .bool false ∧ bad = bad0 ∧ FullB L bad k))

def moreN : Value → Nat
  | .bool true => 1
  | _ => 0

theorem FullB.snoc {L : List CE} {bad : List Int} {k : Nat} {c : CE} (h : FullB L bad k) (hc : L[k]? = some c) (h1 : c.of ∈ bad → c.no ∈ bad) : FullB L bad (k + 1) := by
  intro j hj d hd
  by_cases hjk : j = k
  · subst hjk
    rw [hc] at hd
    injection hd with hd
    subst hd
    exact h1
  · exact h j (by omega) d hd

theorem FullB.all {L : List CE} {bad : List Int} (h : FullB L bad L.length) : ∀ c ∈ L, c.of ∈ bad → c.no ∈ bad := by
  intro c hc
  obtain ⟨j, hj⟩ := List.getElem?_of_mem hc
  exact h j (List.getElem?_eq_some_iff.1 hj).1 c hj

theorem srch_keep {w : World} {L : List CE} {t : Int} {bad0 bad : List Int} {b n m : Value} {wr : World} {k : Nat} {c : CE} (h : SrchI w L t b n wr bad) (hk : k < L.length) (hc : L[k]? = some c) (h0 : bad0.length ≤ bad.length)
    (hm : (m = .bool true ∧ bad0.length < bad.length) ∨ (m = .bool false ∧ bad = bad0 ∧ FullB L bad k)) (h1 : c.of ∈ bad → c.no ∈ bad) : InI w L t bad0 b n m (.int .i64 ((k + 1 : Nat) : Int)) wr := by
  refine ⟨bad, k + 1, h, hk, rfl, h0, ?_⟩
  rcases hm with hm | ⟨h2, h3, h4⟩
  · exact .inl hm
  · exact .inr ⟨h2, h3, h4.snoc hc h1⟩

theorem srch_add {w : World} {M : CM} (hw : M.WF) {t : Int} (ht : 0 < t) {bad0 bad : List Int} {b n v' : Value} {wr w2 : World} {k : Nat} {c : CE} (h : SrchI w M.L t b n wr bad) (hk : k < M.L.length) (hc : M.L[k]? = some c) (h0 : bad0.length ≤ bad.length)
    (h1 : c.of ∈ bad) (h2 : c.no ∉ bad) (hb2 : Below w.heap.size w w2) (hown : w2.ownsRow w.heap.size 3 1 v' (bad.length + 1) (rowV bad ++ [.int .i64 c.no])) :
    InI w M.L t bad0 v' (.int .i64 (bad.length : Int)) (.bool true) (.int .i64 ((k + 1 : Nat) : Int)) w2 := by
  refine ⟨bad ++ [c.no], k + 1, ⟨h.1.step hw ht (List.mem_of_getElem? hc) h1 h2, hb2, ?_, ?_⟩, hk, rfl, by simp; omega, .inl ⟨rfl, by simp; omega⟩⟩
  · rw [List.length_append, List.length_singleton]
    have : rowV (bad ++ [c.no]) = rowV bad ++ [.int .i64 c.no] := by simp [rowV]
    rw [this]; exact hown
  · congr 1
    simp

set_option maxRecDepth 100000 in
set_option maxHeartbeats 3200000 in
theorem rrevoke_some {w : World} {x : Nat} {M : CM} {F : Nat → Prop} (h : RCaps w x M F) (e s : Int) (d : CE) (hf : findE M.L e s = some d) :
    Calls Try.prog 52 #[.pointer (some ⟨x, 0, none⟩), .int .i64 e, .int .i64 s] w fun y w' =>
      y = .returned (.tuple #[.int .i64 (revCount M.L d.no), .int .i64 0]) ∧ Mod F w w' ∧ RCaps w' x (M.revoke e s).2 (New F w w') := by
  obtain ⟨i0, hi0, hz0, hz1, hz2⟩ := info_parts cInfo
  obtain ⟨j0, hj0, hy0, hy1, hy2⟩ := info_parts intInfo
  have hk := rfind h e s
  have hxl := h.lt x h.fx
  have hwf := h.wf
  have HH := Lib.hid h
  obtain ⟨A, cap, h0, _, hlen, hrow⟩ := h.reads
  have hfz : w.frozen? ⟨x, 0, none⟩ = false := by
    obtain ⟨q1, q2, q3, v, q4, q5, q6⟩ := h
    exact frozen_of_heap q4 0
  have hdm := (findE_some hf).1
  have ht := (hwf.no d hdm).1
  have HW := Lib.hid hwf
  have HDM := Lib.hid hdm
  have HROW := Lib.hid hrow
  clear h hwf hdm
  go_enter Try.func52, Try.ntmps52
  go_wp2_with fail
  refine hk.mono ?_
  rintro y w1 ⟨⟨i, rfl, hfa⟩, rfl⟩
  obtain ⟨k, rfl, hkc⟩ : ∃ k : Nat, i = k ∧ M.L[k]? = some d := by
    rcases hfa with ⟨_, h5⟩ | ⟨k, c, rfl, h5, h6⟩
    · rw [hf] at h5; cases h5
    · rw [hf] at h6; injection h6 with h6; subst h6; exact ⟨k, rfl, h5⟩
  clear hk hfa
  have hk1 : k < M.L.length := (List.getElem?_eq_some_iff.1 hkc).1
  have ik1 : (k : Int) < (M.L.length : Int) := by omega
  obtain ⟨g, rfl, hg, hgF, hcell⟩ := hrow k d hkc
  have r0 := hcell 0 _ (by omega) rfl
  rw [Nat.add_zero] at r0
  have HF := Lib.hid hf
  obtain ⟨t, htd⟩ : ∃ t, t = d.no := ⟨_, rfl⟩
  rw [← htd] at r0 ht
  have HT := Lib.hid htd
  clear hcell hrow hkc hf htd
  have hL : M.L.length ≤ 9223372036854775807 := by omega
  go_wp2
  go_loopw [9, 10, 11] (fun b n m wr => OutI w M.L t b n m wr) (fun _ n m _ => 2 * (2000 - (intOf n).toNat) + moreN m)
  case atStart =>
    refine ⟨[t], ⟨BadI.start _ _, (Below.refl _ _).alloc (Nat.le_refl _) _, ?_, rfl⟩, .inl rfl⟩
    exact World.ownsRow_lit w #[.int .i64 t] 1 (Nat.le_refl _) (by unfold maxLen; omega) rfl
  case round =>
    obtain ⟨bad0, hS0, hm0⟩ := hrel
    obtain ⟨hB0, hbw0, hown0, rfl⟩ := hS0
    have hbl0 := hB0.len HDM.out HT.out.symm
    have hpos0 : 0 < bad0.length := (List.getElem?_eq_some_iff.1 hB0.head).1
    clear r0
    rcases hm0 with rfl | ⟨rfl, hfull⟩
    · obtain ⟨wo, hwo⟩ : ∃ wo : World, wr = wo := ⟨_, rfl⟩
      subst hwo
      have HSt : Hid (InI w M.L t bad0 u9 (.int .i64 ((bad0.length : Int) - 1)) (.bool false) (.int .i64 ((0 : Nat) : Int)) wr) := ⟨bad0, 0, ⟨hB0, hbw0, hown0, rfl⟩, Nat.zero_le _, rfl, Nat.le_refl _, .inr ⟨rfl, rfl, fun j hj => by omega⟩⟩
      clear hB0 hbw0 hown0
      go_wp2
      go_loopw [9, 10, 11, 12] (fun b n m i w2 => InI w M.L t bad0 b n m i w2) (fun _ _ _ i _ => M.L.length - (intOf i).toNat)
      case atStart => exact HSt.out
      case round =>
        clear HSt
        obtain ⟨bad, q, hS, hql, rfl, h0l, hm⟩ := hrel
        have HS := Lib.hid hS
        obtain ⟨hB, hbw, hown, rfl⟩ := hS
        have hbl := hB.len HDM.out HT.out.symm
        have r0 : wr.cell? ⟨x, 0, none⟩ = some (.slice (some ⟨g, 0, none⟩) M.L.length cap) := by rw [hbw.cell hxl]; exact h0
        have HM := Lib.hid hm
        have HO := Lib.hid hown
        have hrd := Rd.of_own hown
        have h01 := fun n => rhas01 wr _ bad n hrd (by omega)
        clear hB hm hown hrd
        by_cases hlt : q < M.L.length
        · obtain ⟨c, hc⟩ : ∃ c, c = M.L[q] := ⟨_, rfl⟩
          have hck : M.L[q]? = some c := by rw [hc]; exact List.getElem?_eq_getElem hlt
          obtain ⟨g', hg', _, _, hcell⟩ := HROW.out q c hck
          injection hg' with hg'
          injection hg' with hg' _
          subst hg'
          have k0 : wr.cell? ⟨g, q * 8, none⟩ = some (.int .i64 c.no) := by rw [hbw.cell hg]; exact hcell 0 _ (by omega) rfl
          have k1 : wr.cell? ⟨g, q * 8 + 1, none⟩ = some (.int .i64 c.of) := by rw [hbw.cell hg]; exact hcell 1 _ (by omega) rfl
          have HK := Lib.hid hck
          have iq : (q : Int) < (M.L.length : Int) := by omega
          have ho := h01 c.of
          have hn := h01 c.no
          clear hc hck hcell h01
          cases hp1 : hasL bad c.of with
          | false =>
            rw [hp1] at ho
            have HN := Lib.hid (srch_keep HS.out hlt HK.out h0l HM.out (fun h1 => absurd h1 (hasL_false.1 hp1)))
            clear hp1 hn
            go_wp2_with fail
            refine ho.mono ?_
            rintro y w3 ⟨rfl, rfl⟩
            clear ho
            go_wp2
            go_roundw
            case rel => exact HN.out
            case measure => simp [intOf]; omega
          | true =>
            rw [hp1] at ho
            cases hp2 : hasL bad c.no with
            | true =>
              rw [hp2] at hn
              have HN := Lib.hid (srch_keep HS.out hlt HK.out h0l HM.out (fun _ => hasL_true.1 hp2))
              clear hp1 hp2
              go_wp2_with fail
              refine ho.mono ?_
              rintro y w3 ⟨rfl, rfl⟩
              clear ho
              go_wp2_with fail
              refine hn.mono ?_
              rintro y w3 ⟨rfl, rfl⟩
              clear hn
              go_wp2
              go_roundw
              case rel => exact HN.out
              case measure => simp [intOf]; omega
            | false =>
              rw [hp2] at hn
              have HN := Lib.hid (fun v' w3 hb2 ho2 => srch_add HW.out ht (v' := v') (w2 := w3) HS.out hlt HK.out h0l (hasL_true.1 hp1) (hasL_false.1 hp2) hb2 ho2)
              clear hp1 hp2
              have hown := HO.out
              go_wp2_with fail
              refine ho.mono ?_
              rintro y w3 ⟨rfl, rfl⟩
              clear ho
              go_wp2_with fail
              refine hn.mono ?_
              rintro y w3 ⟨rfl, rfl⟩
              clear hn
              go_wp2_with (at_builtin; refine wpList_append_own _ rfl _ _ 36 rfl w.heap.size 3 j0 (.int .i64 0) 1 8 Try.underlying36 hj0 hy0 hy1 hy2 rfl (by decide) _ _ _ rfl (hown.alloc _) ⟨wr.heap.size, 0, none⟩ 1 1 [.int .i64 c.no] rfl rfl ?aa1 ?aa2 ?aa3 ?aa4 ?aa5 ?_)
              case aa1 => exact (cell_one_new _ _ _)
              case aa2 => simp [Value.oneCell']
              case aa3 => unfold maxLen; omega
              case aa4 => omega
              case aa5 => have := hbw.size; simp; omega
              intro v' w3 hown3 hg3 _
              have hb3 : Below w.heap.size w w3 := (hbw.alloc hbw.size _).grown hg3 (by have := hbw.size; simp; omega) (fun q hq => (hown.lt q hq).1)
              have HN2 := Lib.hid (HN.out v' w3 hb3 hown3)
              clear hown hown3 hg3 HN r0 k0 k1 HO
              go_wp2
              go_roundw
              case rel => exact HN2.out
              case measure => simp [intOf]; omega
        · have hqn : q = M.L.length := by omega
          have HN : Hid (OutI w M.L t u9 (.int .i64 ((bad.length : Int) - 1)) u11 wr ∧ 2 * (2000 - (bad.length - 1)) + moreN u11 < 2 * (2000 - (bad0.length - 1)) + 1) := by
            subst hqn
            refine ⟨⟨bad, HS.out, ?_⟩, ?_⟩
            · rcases HM.out with ⟨h1, _⟩ | ⟨h1, h2, h3⟩
              · exact .inl h1
              · exact .inr ⟨h1, h3⟩
            · rcases HM.out with ⟨h1, h2⟩ | ⟨h1, h2, h3⟩
              · have e1 : moreN (.bool true) = 1 := rfl
                rw [h1, e1]; omega
              · have e1 : moreN (.bool false) = 0 := rfl
                rw [h1, h2, e1]; omega
          clear h01 HS HM
          go_wp2
          go_roundw
          case rel => exact HN.out.1
          case measure =>
            have := HN.out.2
            simp [intOf]
            exact this
    · obtain ⟨gb, cb, hu9, hgbl, hgb⟩ := hown0.form hpos0
      subst hu9
      have hbad0 : wr.cell? ⟨gb, 0, none⟩ = some (.int .i64 t) := by
        have := hown0.cells (g := gb) rfl 0 (.int .i64 t) (by simp [rowV, hB0.head])
        rw [add_mk] at this
        exact this
      have hcount := hB0.count HW.out ht (FullB.all hfull)
      have HC := Lib.hid hcount
      have HP := Lib.hid (fun c hc => hB0.keeps HW.out ht (FullB.all hfull) (c := c) hc)
      have hrd0 := Rd.of_own hown0
      have HR0 := Lib.hid hrd0
      have HB := Lib.hid hbw0
      obtain ⟨wo, hwo⟩ : ∃ wo : World, wo = wr := ⟨_, rfl⟩
      have hst : Below wo.heap.size wo wr := by rw [hwo]; exact Below.refl _ _
      rw [← hwo] at HB HR0 hbad0 hgb
      have HST := Lib.hid hst
      have hxo : x < wo.heap.size := Nat.lt_of_lt_of_le hxl HB.out.size
      have hgo : g < wo.heap.size := Nat.lt_of_lt_of_le hg HB.out.size
      have ibp : (0 : Int) < (bad0.length : Int) := by omega
      have ibp2 : 0 < bad0.length := by omega
      clear hwo hB0 hown0 hfull hcount hrd0 hbw0 hst
      go_wp2
      go_loopw [13, 14] (fun l i wr => ∃ q : Nat, q ≤ M.L.length ∧ i = .int .i64 q ∧ Below wo.heap.size wo wr ∧ wr.ownsRow wo.heap.size 105 8 l ((M.L.take q).filter fun c => !underB M.L t c).length (rcells ((M.L.take q).filter fun c => !underB M.L t c))) (fun _ i _ => M.L.length - (intOf i).toNat)
      case atStart => exact ⟨0, Nat.zero_le _, rfl, HST.out, World.ownsRow_nil _ _ _ _⟩
      case round =>
        clear HST
        obtain ⟨q, hql, rfl, hbw, hown⟩ := hrel
        have r0 : wr.cell? ⟨x, 0, none⟩ = some (.slice (some ⟨g, 0, none⟩) M.L.length cap) := by rw [hbw.cell hxo, HB.out.cell hxl]; exact h0
        have hlf : ((M.L.take q).filter fun c => !underB M.L t c).length ≤ 780 := Nat.le_trans (List.length_filter_le _ _) (by rw [List.length_take]; omega)
        by_cases hlt : q < M.L.length
        · obtain ⟨c, hc⟩ : ∃ c, c = M.L[q] := ⟨_, rfl⟩
          have hck : M.L[q]? = some c := by rw [hc]; exact List.getElem?_eq_getElem hlt
          have htk : M.L.take (q + 1) = M.L.take q ++ [c] := by rw [List.take_add_one, hck]; rfl
          have hyes : underB M.L t c = false → ((M.L.take (q + 1)).filter fun c => !underB M.L t c) = ((M.L.take q).filter fun c => !underB M.L t c) ++ [c] := fun h1 => by rw [htk, List.filter_append, List.filter_cons_of_pos (by simp [h1]), List.filter_nil]
          have hno : underB M.L t c = true → ((M.L.take (q + 1)).filter fun c => !underB M.L t c) = ((M.L.take q).filter fun c => !underB M.L t c) := fun h1 => by rw [htk, List.filter_append, List.filter_cons_of_neg (by simp [h1]), List.filter_nil, List.append_nil]
          obtain ⟨hp1, hp2⟩ := HP.out c (List.mem_of_getElem? hck)
          obtain ⟨g', hg', _, _, hcell⟩ := HROW.out q c hck
          injection hg' with hg'
          injection hg' with hg' _
          subst hg'
          have kc : ∀ j v, j < 8 → (rcell c)[j]? = some v → wr.cell? ⟨g, q * 8 + j, none⟩ = some v := fun j v hj hv => by rw [hbw.cell hgo, HB.out.cell hg]; exact hcell j v hj hv
          have k0 : wr.cell? ⟨g, q * 8, none⟩ = some (.int .i64 c.no) := kc 0 _ (by omega) rfl
          have k1 := kc 1 _ (by omega) rfl
          have k2 := kc 2 _ (by omega) rfl
          have k3 := kc 3 _ (by omega) rfl
          have k4 := kc 4 _ (by omega) rfl
          have k5 := kc 5 _ (by omega) rfl
          have k6 := kc 6 _ (by omega) rfl
          have k7 := kc 7 _ (by omega) rfl
          have kb : wr.cell? ⟨gb, 0, none⟩ = some (.int .i64 t) := by rw [hbw.cell hgb]; exact hbad0
          have iq : (q : Int) < (M.L.length : Int) := by omega
          have hrd : Rd wr (.slice (some ⟨gb, 0, none⟩) bad0.length cb) (rowV bad0) := HR0.out.below hbw
          have hmem : Hid (c.no = t ∧ underB M.L t c = false ∨ ¬ c.no = t ∧ hasL bad0 c.no = false ∧ underB M.L t c = false ∨ ¬ c.no = t ∧ hasL bad0 c.no = true ∧ underB M.L t c = true) := by
            show _ ∨ _ ∨ _
            by_cases h1 : c.no = t
            · exact .inl ⟨h1, hp1 h1⟩
            · right
              have h2 := hp2 h1
              cases hu : underB M.L t c with
              | false => exact .inl ⟨h1, by rw [h2, hu], rfl⟩
              | true => exact .inr ⟨h1, by rw [h2, hu], rfl⟩
          have HY := Lib.hid hyes
          have HN := Lib.hid hno
          have HO := Lib.hid hown
          clear hc hck htk hyes hno hcell kc hp1 hp2
          obtain ⟨n, hn⟩ : ∃ n, n = c.no := ⟨_, rfl⟩
          rw [← hn] at k0 hmem
          have HNo := Lib.hid hn
          clear hn hown
          rcases hmem.out with ⟨he, hu⟩ | ⟨hne, hp, hu⟩ | ⟨hne, hp, hu⟩
          · have HE := Lib.hid (HY.out hu)
            have hb : ((n : Int) == t) = true := by simp [he]
            clear hmem hu he
            go_wp2_with fail
            go_quiet (fail)
            obtain ⟨wq, hwq⟩ : ∃ wq : World, wq = wr.drewN nq := ⟨_, rfl⟩
            rw [← hwq]
            have hQ : Same wq wr := by rw [hwq]; exact Same.drewN _ _
            clear hwq
            have hb2 := below_same hbw hQ
            have hown := own_same HO.out hQ
            rw [hQ.cell] at r0 k0 k1 k2 k3 k4 k5 k6 k7
            clear hQ kb
            go_wp2_with (at_builtin; refine wpList_append_own _ rfl _ _ 26 rfl wo.heap.size 105 i0 _ 8 64 Try.underlying26 hi0 hz0 hz1 hz2 rfl (by decide) _ _ _ rfl (hown.alloc _) ⟨wq.heap.size, 0, none⟩ 1 1 [.int .i64 n, .int .i64 c.of, .int .i64 c.env, .int .i64 c.slot, .int .i64 c.x.kind, .int .i64 c.x.id, .int .i64 c.x.len, .int .i64 c.x.rights] rfl rfl ?cc1 ?cc2 ?cc3 ?cc4 ?cc5 ?_)
            case cc1 => exact (World.news_of_block (cs := #[.int .i64 n, .int .i64 c.of, .int .i64 c.env, .int .i64 c.slot, .int .i64 c.x.kind, .int .i64 c.x.id, .int .i64 c.x.len, .int .i64 c.x.rights]) (t := 105) (fr := (0, 0)) (heap_alloc_new wq _))
            case cc2 => simp [Value.oneCell']
            case cc3 => unfold maxLen; omega
            case cc4 => omega
            case cc5 => have := hb2.size; simp; omega
            intro v' w3 hown3 hg3 _
            have hb3 : Below wo.heap.size wo w3 := (hb2.alloc hb2.size _).grown hg3 (by have := hb2.size; simp; omega) (fun q hq => (hown.lt q hq).1)
            have hown4 : w3.ownsRow wo.heap.size 105 8 v' ((M.L.take (q + 1)).filter fun c => !underB M.L t c).length (rcells ((M.L.take (q + 1)).filter fun c => !underB M.L t c)) := by
              rw [HE.out, List.length_append, List.length_singleton, rcells_snoc]
              have : rcell c = [.int .i64 n, .int .i64 c.of, .int .i64 c.env, .int .i64 c.slot, .int .i64 c.x.kind, .int .i64 c.x.id, .int .i64 c.x.len, .int .i64 c.x.rights] := by rw [HNo.out]; rfl
              rw [this]
              exact hown3
            have HO4 := Lib.hid hown4
            clear hown hown3 hown4 hg3 r0 k0 k1 k2 k3 k4 k5 k6 k7 HO
            go_wp2
            go_roundw
            case rel => exact ⟨q + 1, hlt, by go_num, hb3, HO4.out⟩
            case measure => simp [intOf]; omega
          · have HE := Lib.hid (HY.out hu)
            have hb : ((n : Int) == t) = false := by simp [hne]
            have HQc : Hid (∀ m, Calls Try.prog 88 #[.slice (some ⟨gb, 0, none⟩) bad0.length cb, .int .i64 n] (wr.drewN m) fun e w' => e = .returned (.bool false) ∧ ∃ m', w' = wr.drewN m') := fun m =>
              (rhas01 (wr.drewN m) _ bad0 n (hrd.same (Same.drewN _ _)) (by omega)).mono fun _ _ hh => ⟨by rw [hh.1, hp], m, hh.2.symm⟩
            clear hmem hu hne hp
            go_wp2_with fail
            go_quiet ((go_at_call 88; exact HQc.out _))
            clear HQc
            obtain ⟨wq, hwq⟩ : ∃ wq : World, wq = wr.drewN nq := ⟨_, rfl⟩
            rw [← hwq]
            have hQ : Same wq wr := by rw [hwq]; exact Same.drewN _ _
            clear hwq
            have hb2 := below_same hbw hQ
            have hown := own_same HO.out hQ
            rw [hQ.cell] at r0 k0 k1 k2 k3 k4 k5 k6 k7
            clear hQ kb
            go_wp2_with (at_builtin; refine wpList_append_own _ rfl _ _ 26 rfl wo.heap.size 105 i0 _ 8 64 Try.underlying26 hi0 hz0 hz1 hz2 rfl (by decide) _ _ _ rfl (hown.alloc _) ⟨wq.heap.size, 0, none⟩ 1 1 [.int .i64 n, .int .i64 c.of, .int .i64 c.env, .int .i64 c.slot, .int .i64 c.x.kind, .int .i64 c.x.id, .int .i64 c.x.len, .int .i64 c.x.rights] rfl rfl ?dd1 ?dd2 ?dd3 ?dd4 ?dd5 ?_)
            case dd1 => exact (World.news_of_block (cs := #[.int .i64 n, .int .i64 c.of, .int .i64 c.env, .int .i64 c.slot, .int .i64 c.x.kind, .int .i64 c.x.id, .int .i64 c.x.len, .int .i64 c.x.rights]) (t := 105) (fr := (0, 0)) (heap_alloc_new wq _))
            case dd2 => simp [Value.oneCell']
            case dd3 => unfold maxLen; omega
            case dd4 => omega
            case dd5 => have := hb2.size; simp; omega
            intro v' w3 hown3 hg3 _
            have hb3 : Below wo.heap.size wo w3 := (hb2.alloc hb2.size _).grown hg3 (by have := hb2.size; simp; omega) (fun q hq => (hown.lt q hq).1)
            have hown4 : w3.ownsRow wo.heap.size 105 8 v' ((M.L.take (q + 1)).filter fun c => !underB M.L t c).length (rcells ((M.L.take (q + 1)).filter fun c => !underB M.L t c)) := by
              rw [HE.out, List.length_append, List.length_singleton, rcells_snoc]
              have : rcell c = [.int .i64 n, .int .i64 c.of, .int .i64 c.env, .int .i64 c.slot, .int .i64 c.x.kind, .int .i64 c.x.id, .int .i64 c.x.len, .int .i64 c.x.rights] := by rw [HNo.out]; rfl
              rw [this]
              exact hown3
            have HO4 := Lib.hid hown4
            clear hown hown3 hown4 hg3 r0 k0 k1 k2 k3 k4 k5 k6 k7 HO
            go_wp2
            go_roundw
            case rel => exact ⟨q + 1, hlt, by go_num, hb3, HO4.out⟩
            case measure => simp [intOf]; omega
          · have HE := Lib.hid (HN.out hu)
            have hb : ((n : Int) == t) = false := by simp [hne]
            have HQc : Hid (∀ m, Calls Try.prog 88 #[.slice (some ⟨gb, 0, none⟩) bad0.length cb, .int .i64 n] (wr.drewN m) fun e w' => e = .returned (.bool true) ∧ ∃ m', w' = wr.drewN m') := fun m =>
              (rhas01 (wr.drewN m) _ bad0 n (hrd.same (Same.drewN _ _)) (by omega)).mono fun _ _ hh => ⟨by rw [hh.1, hp], m, hh.2.symm⟩
            clear hmem hu hne hp
            go_wp2_with fail
            go_quiet ((go_at_call 88; exact HQc.out _))
            clear HQc
            go_wp2_with fail
            have hQ : Same (wr.drewN nq) wr := Same.drewN _ _
            have hb2 := below_same hbw hQ
            have hown := own_same HO.out hQ
            rw [← HE.out] at hown
            have HO4 := Lib.hid hown
            clear hQ hown
            go_wp2
            go_roundw
            case rel => exact ⟨q + 1, hlt, by go_num, hb2, HO4.out⟩
            case measure => simp [intOf]; omega
        · have hqn : q = M.L.length := by omega
          subst hqn
          rw [List.take_length] at hown
          obtain ⟨A5, c5, rfl⟩ := own_form hown
          have HE := Lib.hid (revFin (e := e) (s := s) HH.out HF.out (HB.out.trans (hbw.mono HB.out.size)) (by rw [← HT.out]; exact own_le hown HB.out.size))
          have rf : wr.frozen? ⟨x, 0, none⟩ = false := by rw [hbw.frozen hxo, HB.out.frozen hxl]; exact hfz
          clear hown
          go_wp2
          go_ret2
          exact ⟨ret_tup2 (by rw [← HT.out]; exact congrArg _ HC.out) rfl, HE.out.1, HE.out.2⟩

end Go.Proofs.Ytpclhecpfjkehaa
