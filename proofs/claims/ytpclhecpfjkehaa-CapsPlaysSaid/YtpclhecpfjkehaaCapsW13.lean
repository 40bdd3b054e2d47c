/- caps: Gone; what Revoke's each calls. -/
import Derived.Test.YtpclhecpfjkehaaCapsW12
import Derived.Deep.LoopGhost
import Derived.Lib.Hide
import Derived.Deep.AppendLies
namespace Go.Proofs.Ytpclhecpfjkehaa
open Go.RowKit

theorem gone_any {w : World} {b : Nat} {M : CM} {F : Nat → Prop} (h : Caps w b M F) (e : Int) :
    Calls Try.prog 53 #[.pointer (some ⟨b, 0, none⟩), .int .i64 e] w fun y w' =>
      y = .returned (.tuple #[]) ∧ Mod F w w' ∧ Caps w' b (M.gone e) (New F w w') := by
  go_enter Try.func53, Try.ntmps53
  go_wp2
  go_loopw [4] (fun t wr => ∃ k : Nat, k ≤ 64 ∧ t = .int .i64 ((k : Int) + 1) ∧ Mod F w wr ∧ Caps wr b (M.goneTo e k) (New F w wr)) (fun t _ => 66 - (intOf t).toNat)
  case atStart => exact ⟨0, by omega, rfl, Mod.refl _ _, h.new (Below.refl _ _)⟩
  case round =>
    obtain ⟨k, hk, rfl, hm, hc⟩ := hrel
    by_cases hlt : k < 64
    · have hd := drop_any hc e ((k : Int) + 1)
      go_wp2_with fail
      refine hd.mono ?_
      rintro y w1 ⟨rfl, hm1, hc1⟩
      have hm2 : Mod F w w1 := hm.trans hm1 (fun i hi hn => hn.elim id (fun h => by omega))
      have hc2 : Caps w1 b (M.goneTo e (k + 1)) (New F w w1) := Caps.more hc1 (fun j hj => by
        rcases hj with hj | ⟨h1, h2⟩
        · rcases hj with hj | ⟨h1, h2⟩
          · exact .inl hj
          · exact .inr ⟨h1, by have := hm1.size; omega⟩
        · exact .inr ⟨by have := hm.size; omega, h2⟩) (fun j hj => New.lt h.lt hm2.size j hj)
      clear hd hm hc hm1 hc1
      go_wp2
      go_roundw
      case rel => exact ⟨k + 1, by omega, by go_num, hm2, hc2⟩
      case measure => simp [intOf]; omega
    · have hk64 : k = 64 := by omega
      subst hk64
      go_wp2
      go_end0
      exact ⟨rfl, hm, hc⟩

theorem gone_nil (e : Int) (w : World) :
    Calls Try.prog 53 #[.pointer none, .int .i64 e] w fun y w' => y = .returned (.tuple #[]) ∧ w = w' := by
  have hd : ∀ (s : Int) (w : World), Calls Try.prog 49 #[.pointer none, .int .i64 e, .int .i64 s] w fun y w' => y = .returned (.tuple #[.bool false, .int .i64 101]) ∧ w = w' := by
    intro s w
    go_enter Try.func49, Try.ntmps49
    go_wp2
    go_ret2
    exact ⟨rfl, rfl⟩
  go_enter Try.func53, Try.ntmps53
  go_wp2
  go_loop [4] (fun t => ∃ k : Nat, k ≤ 64 ∧ t = .int .i64 ((k : Int) + 1)) (fun t => 66 - (intOf t).toNat)
  case atStart => exact ⟨0, by omega, rfl⟩
  case round =>
    obtain ⟨k, hk, rfl⟩ := hrel
    by_cases hlt : k < 64
    · have hd1 := hd ((k : Int) + 1) w
      clear hd
      go_wp2_with fail
      refine hd1.mono ?_
      rintro y w1 ⟨rfl, rfl⟩
      clear hd1
      go_wp2
      go_round
      case rel => exact ⟨k + 1, by omega, by go_num⟩
      case measure => simp [intOf]; omega
    · have hk64 : k = 64 := by omega
      subst hk64
      clear hd
      go_wp2
      go_end0
      exact ⟨rfl, rfl⟩

theorem ptrInfo : (Try.prog.info? 84).map (fun i => (i.zero, i.size, i.bytes)) = some (some (.pointer none), 1, 8) := by kernel_rfl

/-- What is known while Revoke's 'each' runs: all nodes lie as they lay; the two captured variables. -/
structure RevW (w : World) (L : List CE) (f : Int → Nat) (t : CE) (C0 C1 B : Nat) (xs : List Value) : Prop where
  node : ∀ y ∈ L, w.heap[f y.no]? = some (.cells (nodeCells f y) 102 (0, 0))
  top : w.heap[C0]? = some (.cells #[.pointer (some ⟨f t.no, 0, none⟩)] 84 (0, 0))
  bad : ∃ v, w.heap[C1]? = some (.cells #[v] 99 (0, 0)) ∧ w.ownsRow B 84 1 v xs.length xs
  lt : C1 < B
  sz : B ≤ w.heap.size

def RevOut (w : World) (C1 B : Nat) (xs : List Value) (w' : World) : Prop :=
  Mod (fun j => j = C1 ∨ B ≤ j) w w' ∧ ∃ v : Value, w'.heap[C1]? = some (.cells #[v] 99 (0, 0)) ∧ w'.ownsRow B 84 1 v xs.length xs

def revXs (f : Int → Nat) (x : CE) (b : Bool) (xs : List Value) : List Value := xs ++ if b then [.pointer (some ⟨f x.no, 0, none⟩)] else []

set_option maxRecDepth 100000 in
set_option maxHeartbeats 400000 in
theorem revoke1 {w : World} {M : CM} {f : Int → Nat} {t x : CE} {C0 C1 B : Nat} {xs : List Value} (hw : M.WF) (hinj : ∀ x ∈ M.L, ∀ y ∈ M.L, f x.no = f y.no → x.no = y.no) (ht : t ∈ M.L) (hx : x ∈ M.L)
    (h : RevW w M.L f t C0 C1 B xs) (hlen : xs.length ≤ 1000) :
    Calls Try.prog 87 #[.pointer (some ⟨f x.no, 0, none⟩), .pointer (some ⟨C0, 0, none⟩), .pointer (some ⟨C1, 0, none⟩)] w fun y w' =>
      y = .returned (.tuple #[]) ∧ RevOut w C1 B (revXs f x (underB M.L t.no x) xs) w' := by
  obtain ⟨i0, hi, hz0, hz1, hz2⟩ := info_parts ptrInfo
  obtain ⟨hnode, htop, ⟨v, hbad, hown⟩, hlt, hsz⟩ := h
  have hn6 : ∀ y ∈ M.L, w.cell? ⟨f y.no, 6, none⟩ = some (.pointer (ofPtr f y.of)) := fun y hy => by rw [cell_of_heap (hnode y hy)]; rfl
  have hx6 := hn6 x hx
  have hc0 : w.cell? ⟨C0, 0, none⟩ = some (.pointer (some ⟨f t.no, 0, none⟩)) := by rw [cell_of_heap htop]; rfl
  have hc1 : w.cell? ⟨C1, 0, none⟩ = some v := by rw [cell_of_heap hbad]; rfl
  have hf1 : w.frozen? ⟨C1, 0, none⟩ = false := frozen_of_heap hbad 0
  have hC1 := lt_of_heap hbad
  have ht0 := (hw.no t ht).1
  go_enter Try.func87, Try.ntmps87
  go_wp2
  go_loopg [4] x.no.toNat (fun k p wr => wr = w ∧ ∃ c ∈ M.L, p = .pointer (ofPtr f c.of) ∧ c.no.toNat ≤ k ∧ underB M.L t.no x = underB M.L t.no c)
  case atStart => exact ⟨rfl, x, hx, rfl, Nat.le_refl _, rfl⟩
  case round =>
    obtain ⟨rfl, c, hc, rfl, hck, hu⟩ := hrel
    clear hx6
    rcases hw.of c hc with h0 | ⟨p, hp, hp1, hp2⟩
    · have hu0 : Hid (underB M.L t.no x = false) := by
        show underB M.L t.no x = false
        rw [hu, underB_zero hw t.no hc (by omega) h0]
      have ho : ofPtr f c.of = none := by unfold ofPtr; rw [if_pos h0]
      rw [ho]
      clear hu hn6 ho h0
      go_wp2
      go_end0
      refine ⟨rfl, Mod.refl _ _, v, hbad, ?_⟩
      rw [hu0.out]
      simpa [revXs] using hown
    · have hp0 := (hw.no p hp).1
      have ho : ofPtr f c.of = some ⟨f p.no, 0, none⟩ := by unfold ofPtr; rw [if_neg (by omega), hp1]
      have hstep := underB_of hw t.no hc (by omega) hp hp1.symm
      have hp6 := hn6 p hp
      rw [ho]
      clear hn6 ho
      by_cases hpt : p.no = t.no
      · have hu1 : Hid (underB M.L t.no x = true) := by
          show underB M.L t.no x = true
          rw [hu, hstep, hpt]; simp
        have hsame := node_same ⟨f t.no, 0, none⟩
        rw [hpt] at hp6 ⊢
        clear hu hstep hpt hp1 hp2 hck
        go_wp2_with (at_builtin; refine wpList_append_own _ rfl _ _ 99 rfl B 84 i0 (.pointer none) 1 8 Try.underlying99 hi hz0 hz1 hz2 rfl (by decide) _ _ _ rfl (hown.alloc _) ⟨wr.heap.size, 0, none⟩ 1 1 [.pointer (some ⟨f x.no, 0, none⟩)] rfl rfl ?c1 ?c2 ?c3 ?c4 ?c5 ?_)
        case c1 => exact (cell_one_new _ _ _)
        case c2 => simp [Value.oneCell']
        case c3 => unfold maxLen; omega
        case c4 => omega
        case c5 => simp; omega
        intro v' w2 hown2 hg _
        have hrow : ∀ k, v.ownBlock = some k → B ≤ k := fun k hk => (hown.lt k hk).1
        have hm : Mod (fun j => j = C1 ∨ B ≤ j) wr w2 := ((Mod.refl _ wr).alloc _).grown hg (fun k _ hk => .inr (hrow k hk))
        have hb2 : w2.heap[C1]? = some (.cells #[v] 99 (0, 0)) := by
          rw [hg.block C1 (by simp; omega) (fun e => by have := hrow C1 e.symm; omega), heap_alloc, if_neg (by omega)]
          exact hbad
        obtain ⟨g, cap, rfl, hBg, hgs⟩ := hown2.form (by omega)
        have k1 : w2.cell? ⟨C1, 0, none⟩ = some v := by rw [cell_of_heap hb2]; rfl
        have kf : w2.frozen? ⟨C1, 0, none⟩ = false := frozen_of_heap hb2 0
        have HM := Lib.hid hm
        have HO := Lib.hid hown2
        have HB := Lib.hid hb2
        clear hm hown2 hb2 hg hown hbad hc1 hf1 hnode htop hc0 hp6 hsame hi hz0 hz1 hz2
        go_wp2
        (try simp only [Exit.inBlock, Exit.then])
        refine bodyPost_ret (results_none rfl _ _ _) rfl ?_
        have hcw := heap_setCell_eq (i := 0) (u := .slice (some ⟨g, 0, none⟩) (xs.length + 1) cap) HB.out
        refine ⟨rfl, HM.out.setCell (fun _ => .inl rfl) _, _, hcw, ?_⟩
        rw [hu1.out]
        have hl : (revXs f x true xs).length = xs.length + 1 := by simp [revXs]
        rw [hl]
        exact ownsRow_setCell_below HO.out (a := ⟨C1, 0, none⟩) hlt _
      · have hu1 : underB M.L t.no x = underB M.L t.no p := by
          rw [hu, hstep]; simp [hpt]
        have HU := Lib.hid hu1
        have hoth := node_other (f p.no) (f t.no) wr _ _ _ _ (fun e => hpt (hinj p hp t ht e)) (hnode p hp) (hnode t ht)
        have hpk : p.no.toNat + 1 ≤ gk := by omega
        clear hu hstep hu1 hp1 hp2 hck hown hbad hnode htop
        go_wp2
        go_roundg p.no.toNat
        case rel => exact ⟨rfl, p, hp, rfl, Nat.le_refl _, HU.out⟩
        case measure => omega

end Go.Proofs.Ytpclhecpfjkehaa
