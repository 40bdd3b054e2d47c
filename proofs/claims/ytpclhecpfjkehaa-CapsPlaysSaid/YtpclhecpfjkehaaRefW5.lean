/- janusref08: Add, Give. -/
import Derived.Test.YtpclhecpfjkehaaRefW4
import Derived.StillTailTactics
import Derived.Deep.QuietTactic
import Derived.BigQuiet
namespace Go.Proofs.Ytpclhecpfjkehaa
open Go.RowKit

theorem radd {w : World} {x : Nat} {M : CM} {F : Nat → Prop} (h : RCaps w x M F) (hlast : M.last ≤ 1000000000) (e : Int) (c : Cap) :
    Calls Try.prog 46 #[.pointer (some ⟨x, 0, none⟩), .int .i64 e, .agg #[.int .i64 c.kind, .int .i64 c.id, .int .i64 c.len, .int .i64 c.rights]] w fun y w' =>
      y = .returned (.tuple #[.int .i64 (M.add e c).1.1, .int .i64 (M.add e c).1.2]) ∧ Mod F w w' ∧ RCaps w' x (M.add e c).2 (New F w w') := by
  by_cases he : isB e = true
  · by_cases hx : mayB c = true
    · have hadd : M.add e c = M.put e c 0 := by unfold CM.add; rw [he, hx]; rfl
      rw [hadd]
      have hx' : mayB ⟨c.kind, c.id, c.len, c.rights⟩ = true := hx
      go_enter Try.func46, Try.ntmps46
      go_wp2_with (go_at_call 81; refine (renv _ _).mono ?_; rintro r w' ⟨rfl, rfl⟩)
      refine (rmay _ _ _ _ _).mono ?_
      rintro r w1 ⟨rfl, hb⟩
      have hb0 : Below w.heap.size w w1 := ((Below.refl _ _).alloc (Nat.le_refl _) _).trans (hb.mono (by simp))
      have c0 : w1.cell? ⟨w.heap.size, 0, none⟩ = some (.int .i64 c.kind) := by rw [hb.cell (by simp)]; simp
      have c1 : w1.cell? ⟨w.heap.size, 1, none⟩ = some (.int .i64 c.id) := by rw [hb.cell (by simp)]; simp
      have c2 : w1.cell? ⟨w.heap.size, 2, none⟩ = some (.int .i64 c.len) := by rw [hb.cell (by simp)]; simp
      have c3 : w1.cell? ⟨w.heap.size, 3, none⟩ = some (.int .i64 c.rights) := by rw [hb.cell (by simp)]; simp
      clear hb
      have h1 := h.below hb0
      go_wp2_with fail
      refine (rput h1 hlast e he c hx 0 (.inl rfl)).mono ?_
      rintro r w2 ⟨rfl, hm, hc⟩
      go_wp2
      go_ret2
      exact ⟨rfl, (Mod.of_below hb0).trans hm (fun _ _ h => h), hc.more (fun k hk => New.mono hb0.size k hk) (fun k hk => New.lt (fun k hk => h.lt k hk) (Nat.le_trans hb0.size hm.size) k hk)⟩
    · have hx : mayB c = false := by simpa using hx
      have hadd : M.add e c = (((0 : Int), (101 : Int)), M) := by unfold CM.add; rw [he, hx]; rfl
      rw [hadd]
      have hx' : mayB ⟨c.kind, c.id, c.len, c.rights⟩ = false := hx
      go_enter Try.func46, Try.ntmps46
      go_wp2_with (go_at_call 81; refine (renv _ _).mono ?_; rintro r w' ⟨rfl, rfl⟩)
      refine (rmay _ _ _ _ _).mono ?_
      rintro r w1 ⟨rfl, hb⟩
      have hb0 : Below w.heap.size w w1 := ((Below.refl _ _).alloc (Nat.le_refl _) _).trans (hb.mono (by simp))
      go_wp2
      go_ret2
      exact ⟨rfl, Mod.of_below hb0, h.new hb0⟩
  · have he : isB e = false := by simpa using he
    have hadd : M.add e c = (((0 : Int), (101 : Int)), M) := by unfold CM.add; rw [he]; rfl
    rw [hadd]
    go_enter Try.func46, Try.ntmps46
    go_wp2_with (go_at_call 81; refine (renv _ _).mono ?_; rintro r w' ⟨rfl, rfl⟩)
    go_ret2
    have hb0 : Below w.heap.size w (w.alloc (.cells #[.int .i64 c.kind, .int .i64 c.id, .int .i64 c.len, .int .i64 c.rights] 30)) := (Below.refl _ _).alloc (Nat.le_refl _) _
    exact ⟨rfl, Mod.of_below hb0, h.new hb0⟩

set_option maxRecDepth 100000 in
set_option maxHeartbeats 1000000 in
theorem rgive {w : World} {x : Nat} {M : CM} {F : Nat → Prop} (h : RCaps w x M F) (hlast : M.last ≤ 1000000000) (e s to r : Int) :
    Calls Try.prog 48 #[.pointer (some ⟨x, 0, none⟩), .int .i64 e, .int .i64 s, .int .i64 to, .int .i64 r] w fun y w' =>
      y = .returned (.tuple #[.int .i64 (M.give e s to r).1.1, .int .i64 (M.give e s to r).1.2]) ∧ Mod F w w' ∧ RCaps w' x (M.give e s to r).2 (New F w w') := by
  have hk := rfind h e s
  obtain ⟨A, cap, h0, _, hlen, hrow⟩ := h.reads
  have hxl := h.lt x h.fx
  cases hf : findE M.L e s with
  | none =>
    have hgive : M.give e s to r = (((0 : Int), (104 : Int)), M) := by unfold CM.give; rw [hf]
    rw [hgive]
    go_enter Try.func48, Try.ntmps48
    go_wp2_with fail
    refine hk.mono ?_
    rintro y w1 ⟨⟨i, rfl, hfa⟩, rfl⟩
    rcases hfa with ⟨rfl, _⟩ | ⟨k, c, _, _, h5⟩
    · clear hk hrow hf hgive
      go_wp2
      go_ret2
      exact ⟨rfl, Mod.refl _ _, h.new (Below.refl _ _)⟩
    · rw [hf] at h5; cases h5
  | some c =>
    obtain ⟨hc, _, _⟩ := findE_some hf
    have hmay := h.wf.may c hc
    have hcr : 0 ≤ c.x.rights ∧ c.x.rights ≤ 7 := by simp [mayB] at hmay; omega
    -- the place at which 'find' finds c
    have hk' : Calls Try.prog 62 #[.pointer (some ⟨x, 0, none⟩), .int .i64 e, .int .i64 s] w fun y w' => (∃ k : Nat, y = .returned (.int .i64 k) ∧ M.L[k]? = some c) ∧ w = w' := by
      refine hk.mono ?_
      rintro y w1 ⟨⟨i, rfl, hfa⟩, rfl⟩
      rcases hfa with ⟨_, h5⟩ | ⟨k, d, rfl, h5, h6⟩
      · rw [hf] at h5; cases h5
      · rw [hf] at h6; injection h6 with h6; subst h6
        exact ⟨⟨k, rfl, h5⟩, rfl⟩
    clear hk
    by_cases hg : grantB c.x.rights r = true
    · have hg' := hg
      simp [grantB] at hg'
      obtain ⟨⟨⟨g1, g2⟩, g3⟩, g4⟩ := hg'
      have k1 : (bits BinOp.and IntKind.i64 c.x.rights 4 == 0) = false := by rw [and_four _ hcr, g1]; rfl
      have k2 : (bits BinOp.andNot IntKind.i64 r c.x.rights == 0) = true := by rw [andNot_sub _ _ hcr ⟨by omega, by omega⟩, g4]
      have k3 : (bits BinOp.andNot IntKind.i64 r c.x.rights != 0) = false := by rw [bne, k2]; rfl
      by_cases ht : isB to = true
      · have hgive : M.give e s to r = M.put to { c.x with rights := r } c.no := by unfold CM.give; rw [hf]; simp only; rw [if_pos hg, if_pos ht]
        rw [hgive]
        clear hgive k2 hf hg
        go_enter Try.func48, Try.ntmps48
        go_wp2_with fail
        refine hk'.mono ?_
        rintro y w1 ⟨⟨k, rfl, hkc⟩, rfl⟩
        obtain ⟨g, rfl, hgl, _, hcell⟩ := hrow k c hkc
        have hk1 : k < M.L.length := (List.getElem?_eq_some_iff.1 hkc).1
        have ik1 : (k : Int) < (M.L.length : Int) := by omega
        have r0 := hcell 0 _ (by omega) rfl
        have r4 := hcell 4 _ (by omega) rfl
        have r5 := hcell 5 _ (by omega) rfl
        have r6 := hcell 6 _ (by omega) rfl
        have r7 := hcell 7 _ (by omega) rfl
        rw [Nat.add_zero] at r0
        clear hrow hcell hkc hk'
        go_wp2_with (go_at_call 81; refine (renv _ _).mono ?_; rintro y w' ⟨rfl, rfl⟩)
        have hb0 : Below w.heap.size w (w.alloc (.cells #[.int .i64 c.x.kind, .int .i64 c.x.id, .int .i64 c.x.len, .int .i64 r] 30)) := (Below.refl _ _).alloc (Nat.le_refl _) _
        obtain ⟨wa, hwa⟩ : ∃ wa, wa = w.alloc (.cells #[.int .i64 c.x.kind, .int .i64 c.x.id, .int .i64 c.x.len, .int .i64 r] 30) := ⟨_, rfl⟩
        rw [← hwa] at hb0 ⊢
        have h0a : wa.cell? ⟨x, 0, none⟩ = some (.slice (some ⟨g, 0, none⟩) M.L.length cap) := by rw [hb0.cell hxl]; exact h0
        have r0a : wa.cell? ⟨g, k * 8, none⟩ = some (.int .i64 c.no) := by rw [hb0.cell hgl]; exact r0
        have b0 : wa.cell? ⟨w.heap.size, 0, none⟩ = some (.int .i64 c.x.kind) := by rw [hwa]; simp
        have b1 : wa.cell? ⟨w.heap.size, 1, none⟩ = some (.int .i64 c.x.id) := by rw [hwa]; simp
        have b2 : wa.cell? ⟨w.heap.size, 2, none⟩ = some (.int .i64 c.x.len) := by rw [hwa]; simp
        have b3 : wa.cell? ⟨w.heap.size, 3, none⟩ = some (.int .i64 r) := by rw [hwa]; simp
        have hput := fun (w3 : World) (h3 : Same w3 wa) => rput (h.below (below_same hb0 h3)) hlast to ht { c.x with rights := r } (mayB_rights hmay g2 g3) c.no (.inr ⟨c, hc, rfl⟩)
        have HP := Lib.hid hput
        have HB := Lib.hid (fun (w3 : World) (h3 : Same w3 wa) => below_same hb0 h3)
        clear hput hb0 hmay hc hwa h0 r0 r4 r5 r6 r7
        go_region_law (first | (go_at_call 83; refine (HP.out wa.drew ⟨rfl, rfl, rfl, rfl⟩).mono ?_; rintro y w2 ⟨rfl, hm, hc2⟩; have hb1 := HB.out wa.drew ⟨rfl, rfl, rfl, rfl⟩) | (go_simp; go_at_call 83; refine (HP.out wa.drew ⟨rfl, rfl, rfl, rfl⟩).mono ?_; rintro y w2 ⟨rfl, hm, hc2⟩; have hb1 := HB.out wa.drew ⟨rfl, rfl, rfl, rfl⟩))
        all_goals
          have hsz := hb1.size
          have hF := h.lt
          clear HP HB h0a r0a b0 b1 b2 b3
          go_wp2
          go_ret2
          exact ⟨rfl, (Mod.of_below hb1).trans hm (fun _ _ h => h), hc2.more (fun k hk => New.mono hsz k hk) (fun k hk => New.lt hF (Nat.le_trans hsz hm.size) k hk)⟩
      · have ht : isB to = false := by simpa using ht
        have hgive : M.give e s to r = (((0 : Int), (101 : Int)), M) := by unfold CM.give; rw [hf]; simp only; rw [if_pos hg, if_neg (by simp [ht])]
        rw [hgive]
        clear hgive k2 hf hg hc
        go_enter Try.func48, Try.ntmps48
        go_wp2_with fail
        refine hk'.mono ?_
        rintro y w1 ⟨⟨k, rfl, hkc⟩, rfl⟩
        obtain ⟨g, rfl, hgl, _, hcell⟩ := hrow k c hkc
        have hk1 : k < M.L.length := (List.getElem?_eq_some_iff.1 hkc).1
        have ik1 : (k : Int) < (M.L.length : Int) := by omega
        have r7 := hcell 7 _ (by omega) rfl
        clear hrow hcell hkc hk'
        go_wp2_with (go_at_call 81; refine (renv _ _).mono ?_; rintro y w' ⟨rfl, rfl⟩)
        go_ret2
        exact ⟨rfl, Mod.refl _ _, h.new (Below.refl _ _)⟩
    · have hgive : M.give e s to r = (((0 : Int), (104 : Int)), M) := by unfold CM.give; rw [hf]; simp only; rw [if_neg hg]
      rw [hgive]
      have hcases : (bits BinOp.and IntKind.i64 c.x.rights 4 == 0) = true ∨ ((bits BinOp.and IntKind.i64 c.x.rights 4 == 0) = false ∧ r < 1) ∨ ((bits BinOp.and IntKind.i64 c.x.rights 4 == 0) = false ∧ 1 ≤ r ∧ 7 < r) ∨
          ((bits BinOp.and IntKind.i64 c.x.rights 4 == 0) = false ∧ 1 ≤ r ∧ r ≤ 7 ∧ (bits BinOp.andNot IntKind.i64 r c.x.rights != 0) = true) := by
        rw [and_four _ hcr]
        by_cases k1 : subB 4 c.x.rights = true
        · right
          by_cases k2 : r < 1
          · exact .inl ⟨by rw [k1]; rfl, k2⟩
          · right
            by_cases k3 : 7 < r
            · exact .inl ⟨by rw [k1]; rfl, by omega, k3⟩
            · right
              refine ⟨by rw [k1]; rfl, by omega, by omega, ?_⟩
              rw [bne, andNot_sub _ _ hcr ⟨by omega, by omega⟩]
              have : subB r c.x.rights = false := by
                cases k4 : subB r c.x.rights with
                | false => rfl
                | true => exact absurd (by simp [grantB, k1, k4]; omega) hg
              rw [this]; rfl
        · left
          have : subB 4 c.x.rights = false := by simpa using k1
          rw [this]; rfl
      clear hgive hf hg hc hmay
      rcases hcases with k1 | ⟨k1, k2⟩ | ⟨k1, k2, k3⟩ | ⟨k1, k2, k3, k4⟩
      all_goals
        go_enter Try.func48, Try.ntmps48
        go_wp2_with fail
        refine hk'.mono ?_
        rintro y w1 ⟨⟨k, rfl, hkc⟩, rfl⟩
        obtain ⟨g, rfl, hgl, _, hcell⟩ := hrow k c hkc
        have hk1 : k < M.L.length := (List.getElem?_eq_some_iff.1 hkc).1
        have ik1 : (k : Int) < (M.L.length : Int) := by omega
        have r7 := hcell 7 _ (by omega) rfl
        clear hrow hcell hkc hk'
        go_wp2
        go_ret2
        exact ⟨rfl, Mod.refl _ _, h.new (Below.refl _ _)⟩

end Go.Proofs.Ytpclhecpfjkehaa
