/- Law FdsRefs: the walk. -/
import Derived.Test.YtpclhecpfjkehaaFdRefM
import Derived.Test.YtpclhecpfjkehaaOpen
namespace Go.Proofs.Ytpclhecpfjkehaa
open Go.RowKit

/-- What a slice of deeds holds: eight numbers each and a bool (the eighth). -/
def DeedSlF (w : World) (A : Option Addr) (len : Nat) (D : Nat → Nat → Int) (B : Nat → Bool) : Prop :=
  len = 0 ∨ ∃ b o, A = some ⟨b, o, none⟩ ∧ b < w.heap.size ∧ ∀ i, i < len → (∀ j, j < 9 → j ≠ 7 → w.cell? ⟨b, o + (i * 9 + j), none⟩ = some (.int .i64 (D i j))) ∧ w.cell? ⟨b, o + (i * 9 + 7), none⟩ = some (.bool (B i))

theorem OwnF.gone {w0 w w' : World} {b : Nat} {M : FM} {F : Nat → Prop} {p : Int} {v : Value} (h : OwnF w0 w b M F) (hg : GoneI w F b M p 6 v w') : OwnF w0 w' b (M.gone p).2 (New F w w') := by
  obtain ⟨hm, ⟨F1, h1, h2, _⟩, _⟩ := hg
  exact h.step hm (h1.more h2 (NewF.lt h.fds.lt hm.size))

theorem gone_x (M : FM) (p : Int) : (M.gone p).2.x = M.x := goneTo_x M p 6

def RefsI (w : World) (k id : Nat) (wr : World) : Prop := ∃ M F, OwnF w wr w.heap.size M F ∧ IdsUp M id ∧ id ≤ k

theorem RefsI.start {w w1 : World} (o : OwnF w w1 w.heap.size FM.empty (fun k => k = w.heap.size)) : RefsI w 0 0 w1 :=
  ⟨_, _, o, ⟨fun n m _ h => absurd h (by simp [FM.empty]), fun n h => absurd h (by simp [FM.empty])⟩, Nat.le_refl _⟩

/-- The counts so far: the block of 101 numbers that was laid last. -/
structure CntI (wC : World) (M : FM) (k : Nat) (w : World) : Prop where
  bel : Below wC.heap.size wC w
  lt : wC.heap.size < w.heap.size
  row : ∃ cs, w.heap[wC.heap.size]? = some (.cells cs 67) ∧ cs.size = 101 ∧ ∀ v : Nat, v < 101 → cs[v]? = some (.int .i64 (cntF M k v : Nat))

theorem zero101_size : (Try.zeroCells67).size = 101 := by kernel_rfl
theorem zero101_eq : Try.zeroCells67 = Array.replicate 101 (.int .i64 0) := by kernel_rfl
theorem zero101_at (i : Nat) (h : i < 101) : (Try.zeroCells67)[i]? = some (.int .i64 0) := by rw [zero101_eq]; simp [h]

theorem CntI.start (wC : World) (M : FM) : CntI wC M 0 (wC.alloc (.cells Try.zeroCells67 67)) :=
  ⟨(Below.refl _ _).alloc (Nat.le_refl _) _, by simp, _, by rw [heap_alloc, if_pos rfl], zero101_size, fun v hv => by rw [cntF_zero]; exact zero101_at v hv⟩

theorem CntI.below {wC w w' : World} {M : FM} {k : Nat} (h : CntI wC M k w) (hb : Below w.heap.size w w') : CntI wC M k w' := by
  obtain ⟨h1, h2, cs, h3, h4⟩ := h
  exact ⟨h1.trans (hb.mono (Nat.le_of_lt h2)), Nat.lt_of_lt_of_le h2 hb.size, cs, (hb.block _ h2).trans h3, h4⟩

theorem CntI.same {wC w w' : World} {M : FM} {k : Nat} (h : CntI wC M k w) (hs : Same w' w) : CntI wC M k w' := h.below (below_same (Below.refl _ _) hs)

theorem CntI.cell {wC w : World} {M : FM} {k : Nat} (h : CntI wC M k w) {v : Nat} (hv : v < 101) : w.cell? ⟨wC.heap.size, v, none⟩ = some (.int .i64 (cntF M k v : Nat)) := by
  obtain ⟨h1, h2, cs, h3, h4, h5⟩ := h
  rw [cell_of_heap h3, h5 v hv]

theorem CntI.frozen {wC w : World} {M : FM} {k : Nat} (h : CntI wC M k w) (v : Nat) : w.frozen? ⟨wC.heap.size, v, none⟩ = false := by
  obtain ⟨h1, h2, cs, h3, h4, h5⟩ := h
  exact frozen_of_heap h3 _

theorem CntI.skip {wC w : World} {M : FM} {k : Nat} (h : CntI wC M k w) (hw : M.WF) (hk : k < 48) (hg : M.get k = none) : CntI wC M (k + 1) w := by
  obtain ⟨h1, h2, cs, h3, h4, h5⟩ := h
  refine ⟨h1, h2, cs, h3, h4, fun v hv => ?_⟩
  rw [h5 v hv, cntF_succ hw hk, hg]
  rfl

theorem CntI.put {wC w w' : World} {M : FM} {k n c : Nat} (h : CntI wC M k w) (hw : M.WF) (hk : k < 48) (hg : M.get k = some n) (hc : (M.fd n).id = c) (hc1 : c < 101)
    (hs : Same w' (w.setCell ⟨wC.heap.size, c, none⟩ (.int .i64 ((cntF M k c : Nat) + 1)))) : CntI wC M (k + 1) w' := by
  obtain ⟨h1, h2, cs, h3, h4, h5⟩ := h
  have hb : Below wC.heap.size wC w' := below_same (h1.setCell (p := ⟨wC.heap.size, c, none⟩) (Nat.le_refl _) _) hs
  have hz : w'.heap.size = w.heap.size := by rw [hs.1]; simp
  refine ⟨hb, by omega, _, by rw [hs.1]; exact heap_setCell_eq h3, by simpa using h4, fun v hv => ?_⟩
  rw [cntF_succ hw hk, hg]
  by_cases hcv : c = v
  · subst hcv
    rw [Array.getElem?_setIfInBounds_self_of_lt (by omega)]
    simp [idIs, hc]
  · rw [Array.getElem?_setIfInBounds_ne hcv, h5 v hv]
    have : idIs M v (some n) = false := by
      unfold idIs
      simp only [decide_eq_false_iff_not]
      omega
    rw [this]
    rfl

def kkR (r k : Nat) : Nat := if r = 0 then k else 48
theorem kkR_zero (k : Nat) : kkR 0 k = k := rfl
theorem kkR_pos {r : Nat} (h : r ≠ 0) (k : Nat) : kkR r k = 48 := if_neg h

theorem at_row (M : FM) {q d : Nat} (hq : q < 8) (hd : d < 6) : M.at ((q : Int) + 1) d = (match M.get (q * 6 + d) with | none => (FT.zero, 9) | some n => (M.tell n, 0)) := by
  unfold FM.at FM.file
  have h1 : pidB ((q : Int) + 1) = true := by simp [pidB]; omega
  have h2 : fdB (d : Int) = true := by simp [fdB]; omega
  have h3 : idxF ((q : Int) + 1) d = q * 6 + d := by unfold idxF; omega
  rw [h1, h2, h3]
  rfl

theorem left_row (M : FM) {q : Nat} (hq : q < 8) : M.left ((q : Int) + 1) = (leftTo M ((q : Int) + 1) 6 : Nat) := by
  unfold FM.left leftTo
  rw [if_pos (by simp [pidB]; omega)]

theorem leftTo_row (M : FM) {q d : Nat} : leftTo M ((q : Int) + 1) (d + 1) = leftTo M ((q : Int) + 1) d + if (M.get (q * 6 + d)).isNone then 1 else 0 := by
  rw [leftTo_succ]
  have h3 : idxF ((q : Int) + 1) d = q * 6 + d := by unfold idxF; omega
  rw [h3]

set_option maxRecDepth 100000 in
set_option maxHeartbeats 3200000 in
theorem refs_walk (A : Option Addr) (len cap : Nat) (D : Nat → Nat → Int) (B : Nat → Bool) (w : World) (hl : DeedSlF w A len D B) (hmax : len ≤ maxLen) :
    Calls Try.prog 5 #[.slice A len cap] w fun y w' => y = .returned (.bool true) ∧ Below w.heap.size w w' := by
  unfold maxLen at hmax
  go_enter Try.func5, Try.ntmps5
  go_wp2_with fail
  refine (newF _).mono ?_
  rintro y w1 ⟨rfl, hw1⟩
  have HI : Hid (RefsI w 0 0 w1) := RefsI.start (by rw [← hw1]; exact OwnF.new (Below.refl _ _))
  clear hw1
  go_wp2
  go_loopw [4, 5] (fun a t wr => ∃ k id : Nat, k ≤ len ∧ k ≤ 100 ∧ a = .int .i64 id ∧ t = .int .i64 k ∧ RefsI w k id wr) (fun _ t _ => 101 - (intOf t).toNat)
  case atStart => exact ⟨0, 0, by omega, by omega, rfl, rfl, HI.out⟩
  case round =>
    clear HI
    obtain ⟨k, id, hk, hk100, rfl, rfl, hIr⟩ := hrel
    by_cases hlt : k < len ∧ k < 100
    · obtain ⟨hlt1, hlt2⟩ := hlt
      rcases hl with h0 | ⟨b, o, rfl, hb, hcell⟩
      · omega
      obtain ⟨M, F, hT, hU, hidk⟩ := hIr
      have hbel := hT.bel
      have cc : ∀ j, j < 9 → j ≠ 7 → wr.cell? ⟨b, o + k * 9 + j, none⟩ = some (.int .i64 (D k j)) := by
        intro j hj hj7
        rw [hbel.cell (by exact hb), Nat.add_assoc]
        exact (hcell k hlt1).1 j hj hj7
      have d7 : wr.cell? ⟨b, o + k * 9 + 7, none⟩ = some (.bool (B k)) := by
        rw [hbel.cell (by exact hb), Nat.add_assoc]
        exact (hcell k hlt1).2
      have d0 := cc 0 (by omega) (by omega)
      have d1 := cc 1 (by omega) (by omega)
      have d2 := cc 2 (by omega) (by omega)
      have d3 := cc 3 (by omega) (by omega)
      have d4 := cc 4 (by omega) (by omega)
      have d5 := cc 5 (by omega) (by omega)
      have d6 := cc 6 (by omega) (by omega)
      have d8 := cc 8 (by omega) (by omega)
      rw [Nat.add_zero] at d0
      obtain ⟨e0, he0⟩ : ∃ e0, e0 = D k 0 := ⟨_, rfl⟩
      obtain ⟨e1, he1⟩ : ∃ e1, e1 = D k 1 := ⟨_, rfl⟩
      obtain ⟨e2, he2⟩ : ∃ e2, e2 = D k 2 := ⟨_, rfl⟩
      obtain ⟨e3, he3⟩ : ∃ e3, e3 = D k 3 := ⟨_, rfl⟩
      obtain ⟨e4, he4⟩ : ∃ e4, e4 = D k 4 := ⟨_, rfl⟩
      obtain ⟨e5, he5⟩ : ∃ e5, e5 = D k 5 := ⟨_, rfl⟩
      obtain ⟨e6, he6⟩ : ∃ e6, e6 = D k 6 := ⟨_, rfl⟩
      obtain ⟨e7, he7⟩ : ∃ e7, e7 = B k := ⟨_, rfl⟩
      obtain ⟨e8, he8⟩ : ∃ e8, e8 = D k 8 := ⟨_, rfl⟩
      rw [← he0] at d0
      rw [← he1] at d1
      rw [← he2] at d2
      rw [← he3] at d3
      rw [← he4] at d4
      rw [← he5] at d5
      rw [← he6] at d6
      rw [← he7] at d7
      rw [← he8] at d8
      have hT1 := hT.below ((Below.refl wr.heap.size wr).alloc (Nat.le_refl _) (.cells #[.int .i64 e0, .int .i64 e1, .int .i64 e2, .int .i64 e3, .int .i64 e4, .int .i64 e5, .int .i64 e6, .bool e7, .int .i64 e8] 58))
      clear cc hcell hbel he0 he1 he2 he3 he4 he5 he6 he7 he8 hT
      by_cases h0 : e0 = 0
      · subst h0
        have cal := fopen hT1.fds e1 ⟨2, (id : Int) + 1, 0, false⟩ 0
        simp only [ftA] at cal
        have HU : Hid (IdsUp (M.open e1 ⟨2, (id : Int) + 1, 0, false⟩).2 ((id + 1 : Nat) : Int)) := hU.open (by omega) e1 2 0 false
        have HT := Lib.hid hT1
        clear hT1 hU
        go_wp2_with fail
        refine cal.mono ?_
        rintro y w2 ⟨rfl, hm2, hc2⟩
        have HT2 := Lib.hid (HT.out.step hm2 hc2)
        clear hm2 hc2 HT cal d0 d1 d2 d3 d4 d5 d6 d7 d8
        go_wp2
        go_roundw
        case rel => exact ⟨k + 1, id + 1, by omega, by omega, by go_num, by go_num, _, _, HT2.out, HU.out, by omega⟩
        case measure => simp [intOf]; omega
      · by_cases h1 : e0 = 1
        · subst h1
          have cal := fdup hT1.fds e1 e2
          have HU : Hid (IdsUp (M.dup e1 e2).2 (id : Int)) := hU.keep (dup_x M e1 e2)
          have HT := Lib.hid hT1
          clear hT1 hU
          go_wp2_with fail
          refine cal.mono ?_
          rintro y w2 ⟨rfl, hm2, hc2⟩
          have HT2 := Lib.hid (HT.out.step hm2 hc2)
          clear hm2 hc2 HT cal d0 d1 d2 d3 d4 d5 d6 d7 d8
          go_wp2
          go_roundw
          case rel => exact ⟨k + 1, id, by omega, by omega, rfl, by go_num, _, _, HT2.out, HU.out, by omega⟩
          case measure => simp [intOf]; omega
        · by_cases h2 : e0 = 2
          · subst h2
            have cal := fclose hT1.fds e1 e2
            simp only [ftA] at cal
            have HU : Hid (IdsUp (M.close e1 e2).2 (id : Int)) := hU.keep (close_x M e1 e2)
            have HT := Lib.hid hT1
            clear hT1 hU
            go_wp2_with fail
            refine cal.mono ?_
            rintro y w2 ⟨rfl, hm2, hc2⟩
            have HT2 := Lib.hid (HT.out.step hm2 hc2)
            clear hm2 hc2 HT cal d0 d1 d2 d3 d4 d5 d6 d7 d8
            go_wp2
            go_roundw
            case rel => exact ⟨k + 1, id, by omega, by omega, rfl, by go_num, _, _, HT2.out, HU.out, by omega⟩
            case measure => simp [intOf]; omega
          · by_cases h5 : e0 = 5
            · subst h5
              have cal := ffork hT1.fds e1 e3
              have HU : Hid (IdsUp (M.fork e1 e3) (id : Int)) := hU.keep (fork_x M e1 e3)
              have HT := Lib.hid hT1
              clear hT1 hU
              go_wp2_with fail
              refine cal.mono ?_
              rintro y w2 ⟨rfl, hm2, hc2⟩
              have HT2 := Lib.hid (HT.out.step hm2 hc2)
              clear hm2 hc2 HT cal d0 d1 d2 d3 d4 d5 d6 d7 d8
              go_wp2
              go_roundw
              case rel => exact ⟨k + 1, id, by omega, by omega, rfl, by go_num, _, _, HT2.out, HU.out, by omega⟩
              case measure => simp [intOf]; omega
            · by_cases h6 : e0 = 6
              · subst h6
                have cal := fgone hT1.fds e1
                have HU : Hid (IdsUp (M.gone e1).2 (id : Int)) := hU.keep (gone_x M e1)
                have HT := Lib.hid hT1
                clear hT1 hU
                go_wp2_with fail
                refine cal.mono ?_
                rintro y w2 ⟨v2, rfl, hg2⟩
                have HT2 := Lib.hid (HT.out.gone hg2)
                clear hg2 HT cal d0 d1 d2 d3 d4 d5 d6 d7 d8
                go_wp2
                go_roundw
                case rel => exact ⟨k + 1, id, by omega, by omega, rfl, by go_num, _, _, HT2.out, HU.out, by omega⟩
                case measure => simp [intOf]; omega
              · have HU := Lib.hid hU
                have HT2 := Lib.hid hT1
                clear hT1 hU
                go_wp2
                go_roundw
                case rel => exact ⟨k + 1, id, by omega, by omega, rfl, by go_num, _, _, HT2.out, HU.out, by omega⟩
                case measure => simp [intOf]; omega
    · obtain ⟨M, F, hT, hU, hidk⟩ := hIr
      have hstop : (len ≤ k) ∨ (k < len ∧ 100 ≤ k) := by omega
      have HT := Lib.hid hT
      have HU := Lib.hid hU
      obtain ⟨wC, hwC⟩ : ∃ wC : World, wC = wr := ⟨_, rfl⟩
      subst hwC
      clear hl hT hU
      rcases hstop with hs | ⟨hs1, hs2⟩
      all_goals
        go_wp2
        have HC0 := Lib.hid (CntI.start wC M)
        go_loopw [8] (fun t wx => ∃ r : Nat, r ≤ 2 ∧ t = .int .i64 r ∧ CntI wC M (kkR r 0) wx) (fun t _ => 2 - (intOf t).toNat)
        case atStart => exact ⟨0, by omega, rfl, HC0.out⟩
        case round =>
          clear HC0
          obtain ⟨r, hr2, rfl, hC⟩ := hrel
          by_cases hr : r < 2
          · have HC := Lib.hid hC
            have hrb : decide ((r : Int) < 2) = true := by rw [decide_eq_true_iff]; omega
            clear hC
            go_wp2
            go_loopw [9] (fun t wx => ∃ q : Nat, q ≤ 8 ∧ t = .int .i64 ((q : Int) + 1) ∧ CntI wC M (kkR r (q * 6)) wx) (fun t _ => 9 - (intOf t).toNat)
            case atStart => exact ⟨0, by omega, rfl, HC.out⟩
            case round =>
              clear HC
              obtain ⟨q, hq8, rfl, hC⟩ := hrel
              by_cases hq : q < 8
              · have HC := Lib.hid hC
                have hqb : decide ((q : Int) + 1 ≤ 8) = true := by rw [decide_eq_true_iff]; omega
                clear hC
                go_wp2
                go_loopw [10, 11] (fun a t wx => ∃ d : Nat, d ≤ 6 ∧ a = .int .i64 (leftTo M ((q : Int) + 1) d : Nat) ∧ t = .int .i64 d ∧ CntI wC M (kkR r (q * 6 + d)) wx) (fun _ t _ => 6 - (intOf t).toNat)
                case atStart => exact ⟨0, by omega, rfl, rfl, HC.out⟩
                case round =>
                  clear HC
                  obtain ⟨d, hd6, rfl, rfl, hC⟩ := hrel
                  by_cases hd : d < 6
                  · have hat := at_row M hq hd
                    have hk48 : q * 6 + d < 48 := by omega
                    have hls := leftTo_row M (q := q) (d := d)
                    have hcall := fget (HT.out.fds.below hC.bel) ((q : Int) + 1) d
                    rw [hat] at hcall
                    clear hat
                    cases hg : M.get (q * 6 + d) with
                    | none =>
                      rw [hg] at hcall hls
                      simp only [ftA, FT.zero, FD.zero] at hcall
                      have hls' : leftTo M ((q : Int) + 1) (d + 1) = leftTo M ((q : Int) + 1) d + 1 := hls
                      have hle := leftTo_le M ((q : Int) + 1) d
                      obtain ⟨nn, hnn⟩ : ∃ nn, nn = leftTo M ((q : Int) + 1) d := ⟨_, rfl⟩
                      rw [← hnn] at hls' hle ⊢
                      have HS : Hid (CntI wC M (kkR r (q * 6 + d)) wr → CntI wC M (kkR r (q * 6 + (d + 1))) wr) := fun h => by
                        by_cases hr0 : r = 0
                        · subst hr0
                          show CntI wC M (q * 6 + d + 1) wr
                          exact CntI.skip (k := q * 6 + d) h HT.out.fds.wf hk48 hg
                        · rw [kkR_pos hr0] at h ⊢
                          exact h
                      have HC := Lib.hid (HS.out hC)
                      have HLS : Hid (leftTo M ((q : Int) + 1) (d + 1) = nn + 1) := hls'
                      clear hls hls' hC HS hg hnn hk48
                      go_wp2_with fail
                      refine hcall.mono ?_
                      rintro y w2 ⟨rfl, hb2⟩
                      have HC2 := Lib.hid ((HC.out.below hb2).below ((Below.refl _ w2).alloc (Nat.le_refl _) (.cells #[.int .i64 0, .int .i64 0, .int .i64 0, .bool false, .int .i64 0] 56)))
                      clear hcall hb2 HC
                      go_wp2
                      go_roundw
                      case rel => exact ⟨d + 1, by omega, by rw [HLS.out]; go_num, by go_num, HC2.out⟩
                      case measure => simp [intOf]; omega
                    | some n =>
                      have hn := FM.get_lt HT.out.fds.wf hg
                      rw [hg] at hcall hls
                      have hls' : leftTo M ((q : Int) + 1) (d + 1) = leftTo M ((q : Int) + 1) d := hls
                      simp only [ftA, FM.tell] at hcall
                      have hlo := HU.out.lo n hn
                      obtain ⟨c, hc⟩ : ∃ c : Nat, (M.fd n).id = (c : Int) := ⟨(M.fd n).id.toNat, by omega⟩
                      rw [hc] at hlo hcall
                      obtain ⟨hc1, hc2⟩ : 1 ≤ c ∧ c ≤ 100 := by omega
                      have hrf := cntF_refs HT.out.fds.wf HU.out hn
                      rw [hc] at hrf
                      rw [← hrf] at hcall
                      obtain ⟨kd, hkd⟩ : ∃ kd, kd = (M.fd n).kind := ⟨_, rfl⟩
                      obtain ⟨of, hof⟩ : ∃ of, of = (M.fd n).off := ⟨_, rfl⟩
                      obtain ⟨ap, hap⟩ : ∃ ap, ap = (M.fd n).app := ⟨_, rfl⟩
                      rw [← hkd, ← hof, ← hap] at hcall
                      have HG : Hid (M.get (q * 6 + d) = some n) := hg
                      have HID : Hid ((M.fd n).id = (c : Int)) := hc
                      have HLS := Lib.hid hls'
                      have hcle := cntF_le HT.out.fds.wf 48 c
                      have hcle2 := cntF_le HT.out.fds.wf (q * 6 + d) c
                      have HC := Lib.hid hC
                      clear hls hls' hC hg hc hkd hof hap hlo hrf hn
                      go_wp2_with fail
                      refine hcall.mono ?_
                      rintro y w2 ⟨rfl, hb2⟩
                      have hC2 := (HC.out.below hb2).below ((Below.refl _ w2).alloc (Nat.le_refl _) (.cells #[.int .i64 kd, .int .i64 c, .int .i64 of, .bool ap, .int .i64 (cntF M 48 c : Nat)] 56))
                      clear hcall hb2 HC
                      obtain ⟨W, hW⟩ : ∃ W : World, W = w2.alloc (.cells #[.int .i64 kd, .int .i64 c, .int .i64 of, .bool ap, .int .i64 (cntF M 48 c : Nat)] 56) := ⟨_, rfl⟩
                      obtain ⟨T, hTb⟩ : ∃ T, T = w2.heap.size := ⟨_, rfl⟩
                      have a1 : W.cell? ⟨T, 1, none⟩ = some (.int .i64 c) := by rw [hW, hTb, World.cell?_alloc_new]; rfl
                      have a4 : W.cell? ⟨T, 4, none⟩ = some (.int .i64 (cntF M 48 c : Nat)) := by rw [hW, hTb, World.cell?_alloc_new]; rfl
                      rw [← hW] at hC2
                      have f1 : ((c : Int) < 1) = False := by simp; omega
                      have ac := hC2.cell (v := c) (by omega)
                      have af := hC2.frozen c
                      have HC := Lib.hid hC2
                      clear hC2
                      have hg1 : decide ((c : Int) < 1) = false := by rw [decide_eq_false_iff_not]; omega
                      have hg2 : decide ((c : Int) > 100) = false := by rw [decide_eq_false_iff_not]; omega
                      go_upto_region 35 with fail
                      rw [← hW, ← hTb]
                      clear hW hTb f1
                      by_cases hr0 : r = 0
                      · have hg3 : ((r : Int) == 1) = false := by rw [hr0]; rfl
                        have hg4 : ((r : Int) == 0) = true := by rw [hr0]; rfl
                        rw [hr0, kkR_zero] at ac
                        have HCz : Hid (CntI wC M (q * 6 + d) W) := by have := HC.out; rw [hr0, kkR_zero] at this; exact this
                        have HK := Lib.hid hk48
                        clear a4 HC hk48
                        go_quiet (fail)
                        obtain ⟨wq, hwq⟩ : ∃ wq : World, wq = W.drewN nq := ⟨_, rfl⟩
                        rw [← hwq]
                        have hS : Same wq W := by rw [hwq]; exact Same.drewN _ _
                        have HC := Lib.hid (HCz.out.same hS)
                        clear hwq HCz
                        rw [hS.cell] at a1 ac
                        rw [hS.frozen] at af
                        clear hS
                        go_wp2
                        have HCN : Hid (CntI wC M (kkR r (q * 6 + (d + 1))) (wq.setCell ⟨wC.heap.size, c, none⟩ (.int .i64 ((cntF M (q * 6 + d) c : Nat) + 1)))) := by
                          rw [hr0]
                          exact CntI.put (k := q * 6 + d) HC.out HT.out.fds.wf HK.out HG.out HID.out (by omega) (Same.refl _)
                        go_roundw
                        case rel => exact ⟨d + 1, by omega, by rw [HLS.out], by go_num, HCN.out⟩
                        case measure => simp [intOf]; omega
                      · have hg3 : ((r : Int) == 1) = true := by rw [show r = 1 by omega]; rfl
                        have hg4 : ((r : Int) == 0) = false := by rw [show r = 1 by omega]; rfl
                        have hg5 : (((cntF M 48 c : Nat) : Int) != (cntF M 48 c : Nat)) = false := by simp
                        rw [kkR_pos hr0] at ac
                        go_quiet (fail)
                        have HC2 : Hid (CntI wC M (kkR r (q * 6 + (d + 1))) (W.drewN nq)) := by
                          have := HC.out
                          rw [kkR_pos hr0] at this ⊢
                          exact this.same (Same.drewN _ _)
                        clear HC ac af a1 a4 hk48
                        go_wp2
                        go_roundw
                        case rel => exact ⟨d + 1, by omega, by rw [HLS.out], by go_num, HC2.out⟩
                        case measure => simp [intOf]; omega
                  · have hd6' : d = 6 := by omega
                    subst hd6'
                    have hcl := fleft (HT.out.fds.below hC.bel) ((q : Int) + 1)
                    rw [left_row M hq] at hcl
                    have hle := leftTo_le M ((q : Int) + 1) 6
                    obtain ⟨nn, hnn⟩ : ∃ nn, nn = leftTo M ((q : Int) + 1) 6 := ⟨_, rfl⟩
                    rw [← hnn] at hcl hle ⊢
                    have hbb : (((nn : Nat) : Int) != (nn : Int)) = false := by simp
                    have HC : Hid (CntI wC M (kkR r ((q + 1) * 6)) wr) := by rw [show (q + 1) * 6 = q * 6 + 6 by omega]; exact hC
                    clear hC hnn
                    go_wp2_with fail
                    refine hcl.mono ?_
                    rintro y w2 ⟨rfl, rfl⟩
                    clear hcl
                    go_wp2
                    go_roundw
                    case rel => exact ⟨q + 1, by omega, by go_num, HC.out⟩
                    case measure => simp [intOf]; omega
              · have hq8' : q = 8 := by omega
                subst hq8'
                have HC : Hid (CntI wC M (kkR (r + 1) 0) wr) := by
                  rw [kkR_pos (by omega)]
                  by_cases hr0 : r = 0
                  · subst hr0; exact hC
                  · rw [kkR_pos hr0] at hC; exact hC
                clear hC
                go_wp2
                go_roundw
                case rel => exact ⟨r + 1, by omega, by go_num, HC.out⟩
                case measure => simp [intOf]; omega
          · have hr2 : r = 2 := by omega
            subst hr2
            have hbel := HT.out.bel.trans (hC.bel.mono HT.out.bel.size)
            clear hC
            go_wp2_with fail
            refine (awakeF _).mono ?_
            rintro y w8 ⟨rfl, hb9⟩
            go_wp2
            go_ret
            exact ⟨rfl, hbel.trans (hb9.mono hbel.size)⟩

end Go.Proofs.Ytpclhecpfjkehaa
