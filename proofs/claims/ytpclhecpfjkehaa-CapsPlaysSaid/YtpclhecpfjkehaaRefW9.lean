/- janusref08.Drop. -/
import Derived.Test.YtpclhecpfjkehaaRefD
import Derived.StillTailTactics
import Derived.Deep.CutRange
import Derived.Deep.QuietTactic
import Derived.BigQuiet
namespace Go.Proofs.Ytpclhecpfjkehaa
open Go.RowKit

theorem rdrop_none {w : World} {x : Nat} {M : CM} {F : Nat → Prop} (h : RCaps w x M F) (e s : Int) (hf : findE M.L e s = none) :
    Calls Try.prog 50 #[.pointer (some ⟨x, 0, none⟩), .int .i64 e, .int .i64 s] w fun y w' =>
      y = .returned (.tuple #[.bool false, .int .i64 104]) ∧ w = w' := by
  have hk := rfind h e s
  go_enter Try.func50, Try.ntmps50
  go_wp2_with fail
  refine hk.mono ?_
  rintro y w1 ⟨⟨i, rfl, hfa⟩, rfl⟩
  rcases hfa with ⟨rfl, _⟩ | ⟨k, c, _, _, h5⟩
  · clear hk hf h
    go_wp2
    go_ret2
    exact ⟨rfl, rfl⟩
  · rw [hf] at h5; cases h5

theorem src_cells {w : World} {size g : Nat} {xs : List Value} {n i m : Nat} (h : Src w size (some ⟨g, 0, none⟩) n xs) (hn : 0 < n) (hm : i + m ≤ n) : Src w size (some ⟨g, i * size, none⟩) m ((xs.drop (i * size)).take (m * size)) := by
  obtain ⟨h1, h2⟩ := h
  obtain ⟨g', o, he, hlt, hc⟩ := h2 hn
  injection he with he
  injection he with he1 he2
  subst he1; subst he2
  have hle : i * size + m * size ≤ n * size := by rw [← Nat.add_mul]; exact Nat.mul_le_mul_right _ hm
  refine ⟨by rw [List.length_take, List.length_drop, h1]; omega, fun _ => ⟨g, i * size, rfl, hlt, fun j u hu => ?_⟩⟩
  rw [List.getElem?_take] at hu
  split at hu
  · rw [List.getElem?_drop] at hu
    have := hc _ _ hu
    rw [Nat.zero_add] at this
    exact this
  · cases hu

theorem src_eq {w : World} {size : Nat} {A B : Option Addr} {m k : Nat} {xs : List Value} (h : Src w size A m xs) (hk : k = m) (hB : B = A ∨ m = 0) : Src w size B k xs := by
  subst hk
  rcases hB with rfl | h0
  · exact h
  · exact ⟨h.1, fun hl => by omega⟩

set_option maxRecDepth 100000 in
set_option maxHeartbeats 3200000 in
theorem rdrop_some {w : World} {x : Nat} {M : CM} {F : Nat → Prop} (h : RCaps w x M F) (e s : Int) (d : CE) (hf : findE M.L e s = some d) :
    Calls Try.prog 50 #[.pointer (some ⟨x, 0, none⟩), .int .i64 e, .int .i64 s] w fun y w' =>
      y = .returned (.tuple #[.bool (dropLast M.L d), .int .i64 0]) ∧ Mod F w w' ∧ RCaps w' x (M.drop e s).2 (New F w w') := by
  obtain ⟨i0, hi0, hz0, hz1, hz2⟩ := info_parts cInfo
  have hk := rfind h e s
  have hxl := h.lt x h.fx
  have h' := h
  obtain ⟨q1, q2, q3, v, q4, q5, q6⟩ := h'
  have hlen := len_le_780 h.wf (bs := M.L) (fun c hc => hc) h.wf.nd
  go_enter Try.func50, Try.ntmps50
  go_wp2_with fail
  refine hk.mono ?_
  rintro y w1 ⟨⟨i, rfl, hfa⟩, rfl⟩
  obtain ⟨k, rfl, hkc⟩ : ∃ k : Nat, i = k ∧ M.L[k]? = some d := by
    rcases hfa with ⟨_, h5⟩ | ⟨k, c, rfl, h5, h6⟩
    · rw [hf] at h5; cases h5
    · rw [hf] at h6; injection h6 with h6; subst h6; exact ⟨k, rfl, h5⟩
  clear hk hfa
  have hk1 : k < M.L.length := (List.getElem?_eq_some_iff.1 hkc).1
  obtain ⟨g, cap, rfl, _, hg⟩ := q5.form (by omega)
  have hcap : M.L.length ≤ cap := by
    rcases q5.2 with ⟨_, h0⟩ | ⟨g', cap', cur, hv, _, _, hle, _⟩
    · omega
    · injection hv with _ _ hv; subst hv; exact hle
  have h0 : w.cell? ⟨x, 0, none⟩ = some (.slice (some ⟨g, 0, none⟩) M.L.length cap) := by rw [cell_of_heap q4]; rfl
  have hf0 : w.frozen? ⟨x, 0, none⟩ = false := frozen_of_heap q4 0
  have hsrc := Src.of_own q5
  have hgx : g ≠ x := by
    rintro rfl
    rcases q5.2 with ⟨hv, _⟩ | ⟨g', cap', cur, hv, _, hh, _⟩
    · cases hv
    · injection hv with hv _ _
      injection hv with hv
      injection hv with hv _
      subst hv
      rw [q4] at hh
      injection hh with hh
      injection hh with _ hh
      exact absurd hh (by decide)
  have hrow : ∀ j v, j < 8 → (rcell d)[j]? = some v → w.cell? ⟨g, k * 8 + j, none⟩ = some v := fun j v hj hv => by
    have := q5.cells (g := g) rfl (k * 8 + j) v (by rw [rcells_get _ _ _ _ hkc hj]; exact hv)
    rw [add_mk, Nat.zero_add] at this
    exact this
  have r0 := hrow 0 _ (by omega) rfl
  have r1 := hrow 1 _ (by omega) rfl
  have r2 := hrow 2 _ (by omega) rfl
  have r3 := hrow 3 _ (by omega) rfl
  have r4 := hrow 4 _ (by omega) rfl
  have r5 := hrow 5 _ (by omega) rfl
  have r6 := hrow 6 _ (by omega) rfl
  have r7 := hrow 7 _ (by omega) rfl
  rw [Nat.add_zero] at r0
  have HQ4 := Lib.hid q4
  have HQ5 := Lib.hid q5
  have HQ6 := Lib.hid q6
  have HF := Lib.hid hf
  have HK := Lib.hid hkc
  have HSr := Lib.hid hsrc
  have ik1 : (k : Int) < (M.L.length : Int) := by omega
  clear hrow q4 q5 q6 hf hkc hsrc
  go_upto_region 5 with fail
  obtain ⟨W, hW⟩ : ∃ W : World, W = w.alloc (.cells #[.int .i64 d.no, .int .i64 d.of, .int .i64 d.env, .int .i64 d.slot, .int .i64 d.x.kind, .int .i64 d.x.id, .int .i64 d.x.len, .int .i64 d.x.rights] 105) := ⟨_, rfl⟩
  rw [← hW]
  have hbW : Below w.heap.size w W := by rw [hW]; exact (Below.refl _ _).alloc (Nat.le_refl _) _
  have hWs : w.heap.size < W.heap.size := by rw [hW, World.size_alloc]; omega
  have HBX : Hid (W.heap[w.heap.size]? = some (.cells #[.int .i64 d.no, .int .i64 d.of, .int .i64 d.env, .int .i64 d.slot, .int .i64 d.x.kind, .int .i64 d.x.id, .int .i64 d.x.len, .int .i64 d.x.rights] 105 (0, 0))) := by
    show W.heap[w.heap.size]? = _
    rw [hW, heap_alloc, if_pos rfl]
  have HBW := Lib.hid hbW
  have p0 : W.cell? ⟨x, 0, none⟩ = some (.slice (some ⟨g, 0, none⟩) M.L.length cap) := by rw [hbW.cell hxl]; exact h0
  have pf : W.frozen? ⟨x, 0, none⟩ = false := by rw [hbW.frozen hxl]; exact hf0
  have hsW : Src W 8 (some ⟨g, 0, none⟩) M.L.length (rcells M.L) := HSr.out.keep hbW.size (fun g o hg hlt => hbW.block g hlt)
  have hs1 : Src W 8 (some ⟨g, 0, none⟩) k ((rcells M.L).take (k * 8)) := by
    have := src_cells (i := 0) (m := k) hsW (by omega) (by omega)
    rw [Nat.zero_mul, List.drop_zero] at this
    exact this
  have hs2 : Src W 8 (some ⟨g, (k + 1) * 8, none⟩) (M.L.length - (k + 1)) (((rcells M.L).drop ((k + 1) * 8)).take ((M.L.length - (k + 1)) * 8)) := src_cells hsW (by omega) (by omega)
  have ho1 : ∀ u ∈ (rcells M.L).take (k * 8), u.oneCell' = true := fun u hu => rcells_one _ u (List.mem_of_mem_take hu)
  have ho2 : ∀ u ∈ ((rcells M.L).drop ((k + 1) * 8)).take ((M.L.length - (k + 1)) * 8), u.oneCell' = true := fun u hu => rcells_one _ u (List.mem_of_mem_drop (List.mem_of_mem_take hu))
  have hxW : x < W.heap.size := by omega
  obtain ⟨ys1, hys1⟩ : ∃ ys1, ys1 = (rcells M.L).take (k * 8) := ⟨_, rfl⟩
  obtain ⟨ys2, hys2⟩ : ∃ ys2, ys2 = ((rcells M.L).drop ((k + 1) * 8)).take ((M.L.length - (k + 1)) * 8) := ⟨_, rfl⟩
  rw [← hys1] at hs1 ho1
  rw [← hys2] at hs2 ho2
  have HY1 := Lib.hid hys1
  have HY2 := Lib.hid hys2
  clear hW hbW hys1 hys2 h0 hf0 r0 r1 r2 r3 r4 r5 r6 r7 hsW
  have hcc : cap = k + 1 ∨ (¬ cap = k + 1 ∧ ¬ (cap : Int) = (k : Int) + 1) := by omega
  have iw : IntKind.i64.wrap ((k : Int) + 1) = (k : Int) + 1 := by simp [IntKind.wrap, IntKind.bits, IntKind.signed]; omega
  have ik2 : (k : Int) + 1 ≤ (M.L.length : Int) := by omega
  have ik3 : (k : Int) ≤ (cap : Int) := by omega
  have ik6 : 0 ≤ (k : Int) + 1 := by omega
  have ik4 : (M.L.length : Int) ≤ (cap : Int) := by omega
  have ik5 : (k : Int) ≤ (k : Int) + 1 := by omega
  obtain ⟨L, hL⟩ : ∃ L, L = M.L.take k ++ M.L.drop (k + 1) := ⟨_, rfl⟩
  have hyz : ys1 ++ ys2 = rcells L := by
    rw [HY1.out, HY2.out, hL, rcells_append, rcells_take, rcells_drop]
    congr 1
    apply List.take_of_length_le
    rw [rcells_len, List.length_drop]
    omega
  have hLn : L.length = M.L.length - 1 := by rw [hL]; simp; omega
  have HL := Lib.hid hL
  have HYZ := Lib.hid hyz
  clear hL hyz HY1 HY2
  go_cut [8] from 26 to 43 (fun s wx => s = .int .i64 k ∧ ∃ A2 c2, DropSt w wx x d M.last L A2 c2)
  case first =>
    rcases hcc with rfl | ⟨hc1, hc2⟩
    all_goals
      go_region_law (first
        | (refine step_append_src rfl _ _ 26 rfl W.heap.size 105 i0 _ 8 64 Try.underlying26 hi0 hz0 hz1 hz2 rfl (by omega) (.slice none 0 0) 0 [] rfl (World.ownsRow_nil _ _ _ _) _ _ _ ys1 rfl (src_eq hs1.drew (by omega) (.inl rfl)) ho1 (by unfold maxLen; omega) (by omega) (by simp) ?_; intro A1 c1 w1 hown1 hg1 hat1; have hK1 := Keep.grown hg1 rfl; have k0 := hK1.cell p0; have kf := hK1.frozen hxW pf; have hsz1 := hK1.size; simp only [Nat.zero_add, List.nil_append] at hown1 hat1; have hs3 := hs2.keep hsz1 (fun g o _ hg => hK1.block g hg))
        | (refine step_append_src rfl _ _ 26 rfl W.heap.size 105 i0 _ 8 64 Try.underlying26 hi0 hz0 hz1 hz2 rfl (by omega) (.slice A1 k c1) k ys1 rfl hown1 _ _ _ ys2 rfl (by first | exact src_eq hs3 (by omega) (.inl rfl) | exact src_eq hs3 (by omega) (.inr (by omega))) ho2 (by unfold maxLen; omega) (by omega) (by omega) ?_; intro A2 c2 w2 hown2 hg2 hat2; have hK2 := hK1.more hg2 (fun k hk => (hown1.lt k hk).1); have z0 := hK2.cell p0; have zf := hK2.frozen hxW pf; have HS := Lib.hid (fun hz hn => DropSt.start (L := L) hxl HBW.out hK2 HQ4.out HBX.out hown2 hz hn)))
    all_goals
      have hst := HS.out HYZ.out (by omega)
      clear HS hown2 hown1 hg1 hg2 hat1 hat2 k0 kf z0 zf p0 pf hs1 hs2 hs3 ho1 ho2 hK1 hK2 hsz1
      go_wp2_with fail
      go_meet
      exact ⟨rfl, _, _, hst⟩
  case rest =>
    obtain ⟨rfl, A2, c2, hst⟩ := hcut
    have hL780 : L.length ≤ 780 := by omega
    clear HBW HBX p0 pf hs1 hs2 ho1 ho2 hcc iw ik2 ik3 ik4 ik5 ik6 hLn
    go_wp2
    go_loopw [10, 11] (fun l t wr => ∃ j : Nat, j ≤ L.length ∧ t = .int .i64 j ∧ l = .bool (lastAt d L j) ∧ DropSt w wr x d M.last (dropAt d L j) A2 c2) (fun _ t _ => L.length - (intOf t).toNat)
    case atStart => exact ⟨0, by omega, rfl, rfl, hst⟩
    case round =>
      clear hst
      obtain ⟨j, hj, rfl, rfl, hS⟩ := hrel
      by_cases hlt : j < L.length
      · obtain ⟨c, hc⟩ : ∃ c, c = L[j] := ⟨_, rfl⟩
        have hck : L[j]? = some c := by rw [hc]; exact List.getElem?_eq_getElem hlt
        obtain ⟨g2, rfl, r0, rf, hcell, hbox⟩ := hS.reads hck
        have ij : (j : Int) < (L.length : Int) := by omega
        have k1 := hcell 1 _ (by omega) rfl
        have k4 := hcell 4 _ (by omega) rfl
        have k5 := hcell 5 _ (by omega) rfl
        have k6 := hcell 6 _ (by omega) rfl
        have k7 := hcell 7 _ (by omega) rfl
        have b0 := hbox 0 _ (by omega) rfl
        have b1 := hbox 1 _ (by omega) rfl
        have b4 := hbox 4 _ (by omega) rfl
        have b5 := hbox 5 _ (by omega) rfl
        have b6 := hbox 6 _ (by omega) rfl
        have mc : mayB c.x = true := by
          refine h.wf.may c ?_
          have hcL : c ∈ M.L.take k ++ M.L.drop (k + 1) := by rw [← HL.out]; exact List.mem_of_getElem? hck
          rcases List.mem_append.1 hcL with h1 | h1
          · exact List.mem_of_mem_take h1
          · exact List.mem_of_mem_drop h1
        have md : mayB d.x = true := h.wf.may d (List.mem_of_getElem? HK.out)
        simp [mayB] at mc md
        have mc2 : 0 ≤ c.x.id ∧ c.x.id ≤ 1048576 ∧ 1 ≤ c.x.len ∧ c.x.len ≤ 1048576 := by omega
        have md2 : 0 ≤ d.x.id ∧ d.x.id ≤ 1048576 ∧ 1 ≤ d.x.len ∧ d.x.len ≤ 1048576 := by omega
        clear mc md
        have hgB : g2 ≠ w.heap.size := by
          have := (hS.own.lt g2 rfl).1
          omega
        have hgx2 : g2 < wr.heap.size := (hS.own.lt g2 rfl).2
        have hBr : w.heap.size < wr.heap.size := lt_of_heap hS.box
        have hgX : g2 ≠ x := by
          have := (hS.own.lt g2 rfl).1
          omega
        have HK2 := Lib.hid hck
        have HS2 := Lib.hid hS
        obtain ⟨co, hco⟩ : ∃ co, co = c.of := ⟨_, rfl⟩
        obtain ⟨dn, hdn⟩ : ∃ dn, dn = d.no := ⟨_, rfl⟩
        rw [← hco] at k1
        rw [← hdn] at b0
        have HCO := Lib.hid hco
        have HDN := Lib.hid hdn
        have hmt : ((¬ c.x.kind = d.x.kind) ∨ (c.x.kind = d.x.kind ∧ ¬ c.x.id < d.x.id + d.x.len) ∨ (c.x.kind = d.x.kind ∧ c.x.id < d.x.id + d.x.len ∧ ¬ d.x.id < c.x.id + c.x.len)) ∧ meetB c.x d.x = false ∨
            (c.x.kind = d.x.kind ∧ c.x.id < d.x.id + d.x.len ∧ d.x.id < c.x.id + c.x.len) ∧ meetB c.x d.x = true := by
          by_cases h1 : c.x.kind = d.x.kind
          · by_cases h2 : c.x.id < d.x.id + d.x.len
            · by_cases h3 : d.x.id < c.x.id + c.x.len
              · exact .inr ⟨⟨h1, h2, h3⟩, by simp [meetB, h1, h2, h3]⟩
              · exact .inl ⟨.inr (.inr ⟨h1, h2, h3⟩), by simp [meetB, h3]⟩
            · exact .inl ⟨.inr (.inl ⟨h1, h2⟩), by simp [meetB, h2]⟩
          · exact .inl ⟨.inl h1, by simp [meetB, h1]⟩
        have HMT := Lib.hid hmt
        clear hcell hbox hck hc hS hco hdn hmt h
        obtain ⟨lb, hlb⟩ : ∃ lb, lb = lastAt d L j := ⟨_, rfl⟩
        rw [← hlb]
        have HLB := Lib.hid hlb
        clear hlb
        by_cases he : co = dn
        · subst he
          have hst1 := HS2.out.step hxl HK2.out (by rw [← HCO.out, ← HDN.out])
          have HS3 := Lib.hid hst1
          clear hst1
          go_wp2_with fail
          go_quiet (fail)
          go_wp2_with fail
          obtain ⟨wq, hwq⟩ : ∃ wq : World, wq = wr.drewN nq := ⟨_, rfl⟩
          rw [← hwq]
          have hQ : Same wq wr := by rw [hwq]; exact Same.drewN _ _
          clear hwq
          rw [hQ.cell] at r0 k1 k4 k5 k6 k7 b0 b1 b4 b5 b6
          rw [hQ.frozen] at rf
          have HQ := Lib.hid hQ
          clear hQ
          go_still_tail 9, (by kernel_rfl)
          go_upto_region 12 with fail
          obtain ⟨wz, hwz⟩ : ∃ wz : World, wz = (wq.setCell ⟨g2, j * 8 + 1, none⟩ (.int .i64 d.of)).drew := ⟨_, rfl⟩
          rw [← hwz]
          have hZ : DropSt w wz x d M.last (dropAt d L (j + 1)) (some ⟨g2, 0, none⟩) c2 := HS3.out.same hxl (by rw [hwz]; exact HQ.out.setCell _ _)
          clear hwz r0 rf k1 k4 k5 k6 k7 b0 b1 b4 b5 b6 HQ
          have HZ := Lib.hid hZ
          obtain ⟨z0, zc, zb⟩ := hZ.reads2 HK2.out
          have k4 := zc 4 _ (by omega) (by omega) rfl
          have k5 := zc 5 _ (by omega) (by omega) rfl
          have k6 := zc 6 _ (by omega) (by omega) rfl
          have k7 := zc 7 _ (by omega) (by omega) rfl
          have b4 := zb 4 _ (by omega) rfl
          have b5 := zb 5 _ (by omega) rfl
          have b6 := zb 6 _ (by omega) rfl
          have hBz : w.heap.size < wz.heap.size := lt_of_heap hZ.box
          have HE := Lib.hid (fun o : Obj => HZ.out.below hxl ((Below.refl wz.heap.size wz).alloc (Nat.le_refl _) o))
          clear hZ zc zb
          rcases HMT.out with ⟨hp, hm⟩ | ⟨hp, hm⟩
          · have HM := Lib.hid hm
            clear hm
            rcases hp with hp | hp | hp
            all_goals
              go_wp2
              go_roundw
              case rel => exact ⟨j + 1, by omega, by go_num, by rw [lastAt_true d L j c HK2.out HM.out, ← HLB.out], HE.out _⟩
              case measure => simp [intOf]; omega
          · have HM := Lib.hid hm
            clear hm
            go_wp2
            go_roundw
            case rel => exact ⟨j + 1, by omega, by go_num, by rw [lastAt_false d L j c HK2.out HM.out], HE.out _⟩
            case measure => simp [intOf]; omega
        · go_wp2_with fail
          go_quiet (fail)
          go_upto_region 12 with fail
          obtain ⟨wz, hwz⟩ : ∃ wz : World, wz = wr.drewN nq := ⟨_, rfl⟩
          rw [← hwz]
          have hZ : DropSt w wz x d M.last (dropAt d L (j + 1)) (some ⟨g2, 0, none⟩) c2 := by
            rw [dropAt_skip d L j c HK2.out (by rw [← HCO.out, ← HDN.out]; exact he)]
            exact HS2.out.same hxl (by rw [hwz]; exact Same.drewN _ _)
          clear hwz r0 rf k1 k4 k5 k6 k7 b0 b1 b4 b5 b6
          have HZ := Lib.hid hZ
          obtain ⟨z0, zc, zb⟩ := hZ.reads2 HK2.out
          have k4 := zc 4 _ (by omega) (by omega) rfl
          have k5 := zc 5 _ (by omega) (by omega) rfl
          have k6 := zc 6 _ (by omega) (by omega) rfl
          have k7 := zc 7 _ (by omega) (by omega) rfl
          have b4 := zb 4 _ (by omega) rfl
          have b5 := zb 5 _ (by omega) rfl
          have b6 := zb 6 _ (by omega) rfl
          have hBz : w.heap.size < wz.heap.size := lt_of_heap hZ.box
          have HE := Lib.hid (fun o : Obj => HZ.out.below hxl ((Below.refl wz.heap.size wz).alloc (Nat.le_refl _) o))
          clear hZ zc zb
          rcases HMT.out with ⟨hp, hm⟩ | ⟨hp, hm⟩
          · have HM := Lib.hid hm
            clear hm
            rcases hp with hp | hp | hp
            all_goals
              go_wp2
              go_roundw
              case rel => exact ⟨j + 1, by omega, by go_num, by rw [lastAt_true d L j c HK2.out HM.out, ← HLB.out], HE.out _⟩
              case measure => simp [intOf]; omega
          · have HM := Lib.hid hm
            clear hm
            go_wp2
            go_roundw
            case rel => exact ⟨j + 1, by omega, by go_num, by rw [lastAt_false d L j c HK2.out HM.out], HE.out _⟩
            case measure => simp [intOf]; omega
      · have hjn : j = L.length := by omega
        subst hjn
        have r0 : wr.cell? ⟨x, 0, none⟩ = some (.slice A2 L.length c2) := by
          have hl := dropAt_len d L L.length
          rw [cell_of_heap hS.blk, hl]
          rfl
        have HE := Lib.hid (hS.fin (F := F) q1 q2 q3 HF.out HK.out HL.out)
        clear hS h
        go_wp2
        go_ret2
        exact ⟨(by rw [HE.out.1]; rfl), HE.out.2.1, HE.out.2.2⟩

end Go.Proofs.Ytpclhecpfjkehaa
