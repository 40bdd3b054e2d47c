/- fds: Fork, Left, Gone. -/
import Derived.Test.YtpclhecpfjkehaaFdW5
namespace Go.Proofs.Ytpclhecpfjkehaa
open Go.RowKit

/-- One more step of something done in steps. -/
theorem Fds.step {w w1 w2 : World} {b : Nat} {M' : FM} {F : Nat → Prop} (hlt : ∀ k, F k → k < w.heap.size) (hm : Mod F w w1) (hm1 : Mod (New F w w1) w1 w2) (hc : Fds w2 b M' (New (New F w w1) w1 w2)) : Mod F w w2 ∧ Fds w2 b M' (New F w w2) := by
  have hm2 : Mod F w w2 := hm.trans hm1 (fun i hi hn => hn.elim id (fun h => by omega))
  refine ⟨hm2, Fds.more hc (fun j hj => ?_) (fun j hj => NewF.lt hlt hm2.size j hj)⟩
  rcases hj with hj | ⟨h1, h2⟩
  · rcases hj with hj | ⟨h1, h2⟩
    · exact .inl hj
    · exact .inr ⟨h1, by have := hm1.size; omega⟩
  · exact .inr ⟨by have := hm.size; omega, h2⟩

theorem ffork_nil (p c : Int) (w : World) :
    Calls Try.prog 28 #[.pointer none, .int .i64 p, .int .i64 c] w fun r w' => r = .returned (.tuple #[]) ∧ w = w' := by
  have hf := fun d w => ffile_nil p d w
  have ha := fun d w => fat_nil c d w
  by_cases h : p = c
  · subst h
    clear hf ha
    have hbb : ((p : Int) == p) = true := by simp
    go_enter Try.func28, Try.ntmps28
    go_wp2
    exact bodyPost_ret (v := .tuple #[]) (by simp [results, Try.results28, go_sem]) rfl ⟨rfl, rfl⟩
  · have hbb : ((p : Int) == c) = false := by simp [h]
    clear h
    go_enter Try.func28, Try.ntmps28
    go_wp2
    go_loop [12] (fun i => ∃ k : Nat, k ≤ 6 ∧ i = .int .i64 k) (fun i => 6 - (intOf i).toNat)
    case atStart => exact ⟨0, by omega, rfl⟩
    case round =>
      obtain ⟨k, hk, rfl⟩ := hrel
      by_cases hlt : k < 6
      · have hf1 := hf (k : Int) w
        have ha1 := ha (k : Int) w
        clear hf ha
        go_wp2_with fail
        refine hf1.mono ?_
        rintro r w' ⟨rfl, rfl⟩
        go_wp2_with fail
        refine ha1.mono ?_
        rintro r w' ⟨rfl, rfl⟩
        clear hf1 ha1
        go_wp2
        go_round
        case rel => exact ⟨k + 1, by omega, by go_num⟩
        case measure => simp [intOf]; omega
      · clear hf ha
        go_wp2
        go_end0
        exact ⟨rfl, rfl⟩

set_option maxRecDepth 100000 in
set_option maxHeartbeats 800000 in
theorem ffork {w : World} {b : Nat} {M : FM} {F : Nat → Prop} (h : Fds w b M F) (p c : Int) :
    Calls Try.prog 28 #[.pointer (some ⟨b, 0, none⟩), .int .i64 p, .int .i64 c] w fun r w' =>
      r = .returned (.tuple #[]) ∧ Mod F w w' ∧ Fds w' b (M.fork p c) (New F w w') := by
  by_cases hpc : p = c
  · subst hpc
    have hM : M.fork p p = M := by unfold FM.fork; rw [if_pos rfl]
    have HN := Lib.hid (h.new (Below.refl _ _))
    rw [hM]
    clear h hM
    have hbb : ((p : Int) == p) = true := by simp
    go_enter Try.func28, Try.ntmps28
    go_wp2
    exact bodyPost_ret (v := .tuple #[]) (by simp [results, Try.results28, go_sem]) rfl ⟨rfl, Mod.refl _ _, HN.out⟩
  · have hM : M.fork p c = M.forkTo p c 6 := by unfold FM.fork; rw [if_neg hpc]
    rw [hM]
    have hlt0 := h.lt
    have HN := Lib.hid (h.new (Below.refl _ _))
    have hbb : ((p : Int) == c) = false := by simp [hpc]
    clear h hM hpc
    go_enter Try.func28, Try.ntmps28
    go_wp2
    go_loopw [12] (fun i wr => ∃ k : Nat, k ≤ 6 ∧ i = .int .i64 k ∧ Mod F w wr ∧ Fds wr b (M.forkTo p c k) (New F w wr)) (fun i _ => 6 - (intOf i).toNat)
    case atStart => exact ⟨0, by omega, rfl, Mod.refl _ _, HN.out⟩
    case round =>
      clear HN
      obtain ⟨k, hk, rfl, hm, hF⟩ := hrel
      by_cases hk6 : k < 6
      · have hw1 := hF.wf
        obtain ⟨N, hN⟩ : ∃ N, N = M.forkTo p c k := ⟨_, rfl⟩
        have hNs : M.forkTo p c (k + 1) = N.fork1 p c k := by rw [hN]; rfl
        rw [← hN] at hF hw1
        have HNs := Lib.hid hNs
        have hF0 := hF
        obtain ⟨_, hlt, f, hr, hFb, hFn⟩ := hF
        have hfi := ffile hr p k
        have HM := Lib.hid hm
        -- nothing changes
        have HSK : Hid (N.fork1 p c k = N → Mod F w wr ∧ Fds wr b (M.forkTo p c (k + 1)) (New F w wr)) := fun he => ⟨HM.out, by rw [HNs.out, he]; exact hF0⟩
        clear hm hN hNs
        have hfdk : fdB (k : Int) = true := by simp [fdB]; omega
        cases hfl : N.file p k with
        | none =>
          have HX := Lib.hid (HSK.out (by unfold FM.fork1; rw [hfl]))
          have hat : ∃ a : Option Addr, Calls Try.prog 69 #[.pointer (some ⟨b, 0, none⟩), .int .i64 c, .int .i64 k] wr fun r w' => r = .returned (.pointer a) ∧ wr = w' := by
            by_cases hc : pidB c = true
            · exact ⟨_, fat_in b c k hc hfdk wr⟩
            · exact ⟨_, fat_out b c k (by simp [hc]) wr⟩
          obtain ⟨a, hat⟩ := hat
          rw [hfl] at hfi
          clear hr hF0 HSK HNs hfl
          go_wp2_with fail
          refine hfi.mono ?_
          rintro r w' ⟨rfl, rfl⟩
          simp only [ptrF]
          clear hfi
          go_wp2_with fail
          refine hat.mono ?_
          rintro r w' ⟨rfl, rfl⟩
          clear hat
          go_wp2
          go_roundw
          case rel => exact ⟨k + 1, by omega, by go_num, HX.out⟩
          case measure => simp [intOf]; omega
        | some n =>
          obtain ⟨_, _, hg⟩ := FM.file_some hfl
          have hn := FM.get_lt hw1 hg
          rw [hfl] at hfi
          by_cases hc : pidB c = true
          · have hat := fat_in b c k hc hfdk wr
            have hi := pidB_idx hc hfdk
            obtain ⟨t0, tf⟩ := hr.cell (idxF c k) hi
            obtain ⟨i, hii⟩ : ∃ i, i = idxF c k := ⟨_, rfl⟩
            rw [← hii] at hat hi t0 tf
            have hbl := hlt b hFb
            cases hgc : N.get i with
            | some m =>
              have HX := Lib.hid (HSK.out (by unfold FM.fork1; rw [hfl]; simp only [hc]; rw [← hii, hgc]; rfl))
              rw [hgc] at t0
              simp only [ptrF] at t0
              clear hr hF0 HSK HNs hfl hii hgc hc hg
              go_wp2_with fail
              refine hfi.mono ?_
              rintro r w' ⟨rfl, rfl⟩
              simp only [ptrF]
              clear hfi
              go_wp2_with fail
              refine hat.mono ?_
              rintro r w' ⟨rfl, rfl⟩
              clear hat
              go_wp2
              go_roundw
              case rel => exact ⟨k + 1, by omega, by go_num, HX.out⟩
              case measure => simp [intOf]; omega
            | none =>
              have hE : N.fork1 p c k = N.put i (some n) := by unfold FM.fork1; rw [hfl]; simp only [hc]; rw [← hii, hgc]; rfl
              have hr2 := FRep.link hr hw1 hi hn hgc (w' := (wr.setCell ⟨f n, 4, none⟩ (.int .i64 (N.refs n + 1))).setCell ⟨b, i, none⟩ (.pointer (some ⟨f n, 0, none⟩))) (Same.refl _)
              have hm2 : Mod (New F w wr) wr ((wr.setCell ⟨f n, 4, none⟩ (.int .i64 (N.refs n + 1))).setCell ⟨b, i, none⟩ (.pointer (some ⟨f n, 0, none⟩))) := ((Mod.refl _ wr).setCell (fun _ => hFn n hn) _).setCell (fun _ => hFb) _
              have hwf2 := hw1.put i (v := some n) (fun m h => by injection h with h; omega)
              have hS := Fds.step hlt0 HM.out hm2 (Fds.set (M := N) (M' := N.put i (some n)) hlt hFb hFn rfl hwf2 hm2 hr2)
              rw [← hE, ← HNs.out] at hS
              have HX := Lib.hid hS
              obtain ⟨c0, c1, c2, c3, c4, cf⟩ := hr.fcell hn
              have cf4 := cf 4
              have hne : f n ≠ b := hr.ne hn
              have hne' : ¬ b = f n := fun e => hne e.symm
              have hrn := FM.refs_nonneg N n
              have hrl := FM.refs_le hw1 n
              rw [hgc] at t0
              simp only [ptrF] at t0
              clear hr hF0 HSK HNs hfl hii hgc hc hg hE hr2 hm2 hwf2 hS cf hFn hlt
              go_wp2_with fail
              refine hfi.mono ?_
              rintro r w' ⟨rfl, rfl⟩
              simp only [ptrF]
              clear hfi
              go_wp2_with fail
              refine hat.mono ?_
              rintro r w' ⟨rfl, rfl⟩
              clear hat
              go_wp2
              go_roundw
              case rel => exact ⟨k + 1, by omega, by go_num, HX.out⟩
              case measure => simp [intOf]; omega
          · have hat := fat_out b c k (by simp [hc]) wr
            have HX := Lib.hid (HSK.out (by unfold FM.fork1; rw [hfl]; simp [hc]))
            clear hr hF0 HSK HNs hfl hc hg
            go_wp2_with fail
            refine hfi.mono ?_
            rintro r w' ⟨rfl, rfl⟩
            simp only [ptrF]
            clear hfi
            go_wp2_with fail
            refine hat.mono ?_
            rintro r w' ⟨rfl, rfl⟩
            clear hat
            go_wp2
            go_roundw
            case rel => exact ⟨k + 1, by omega, by go_num, HX.out⟩
            case measure => simp [intOf]; omega
      · have hk6' : k = 6 := by omega
        subst hk6'
        have HX := Lib.hid hF
        clear hF
        go_wp2
        go_end0
        exact ⟨rfl, hm, HX.out⟩

def leftTo (M : FM) (p : Int) (k : Nat) : Nat := ((List.range k).filter fun j : Nat => (M.get (idxF p j)).isNone).length

theorem leftTo_succ (M : FM) (p : Int) (k : Nat) : leftTo M p (k + 1) = leftTo M p k + if (M.get (idxF p k)).isNone then 1 else 0 := by
  unfold leftTo
  rw [List.range_succ, List.filter_append, List.length_append]
  congr 1
  cases h : (M.get (idxF p k)).isNone <;> simp [h]

theorem leftTo_le (M : FM) (p : Int) (k : Nat) : leftTo M p k ≤ k := by
  unfold leftTo
  refine Nat.le_trans (List.length_filter_le _ _) (by simp)

theorem fleft_zero (o : Option Addr) (p : Int) (w : World) (ha : ∀ d : Nat, d < 6 → Calls Try.prog 69 #[.pointer o, .int .i64 p, .int .i64 d] w fun r w' => r = .returned (.pointer none) ∧ w = w') :
    Calls Try.prog 31 #[.pointer o, .int .i64 p] w fun r w' => r = .returned (.int .i64 0) ∧ w = w' := by
  go_enter Try.func31, Try.ntmps31
  go_wp2
  go_loop [5, 8] (fun n i => ∃ k : Nat, k ≤ 6 ∧ n = .int .i64 0 ∧ i = .int .i64 k) (fun _ i => 6 - (intOf i).toNat)
  case atStart => exact ⟨0, by omega, rfl, rfl⟩
  case round =>
    obtain ⟨k, hk, rfl, rfl⟩ := hrel
    by_cases hlt : k < 6
    · have ha1 := ha k hlt
      clear ha
      go_wp2_with fail
      refine ha1.mono ?_
      rintro r w' ⟨rfl, rfl⟩
      clear ha1
      go_wp2
      go_round
      case rel => exact ⟨k + 1, by omega, rfl, by go_num⟩
      case measure => simp [intOf]; omega
    · clear ha
      go_wp2
      go_ret
      exact ⟨rfl, rfl⟩

theorem fleft {w : World} {b : Nat} {M : FM} {F : Nat → Prop} (h : Fds w b M F) (p : Int) :
    Calls Try.prog 31 #[.pointer (some ⟨b, 0, none⟩), .int .i64 p] w fun r w' => r = .returned (.int .i64 (M.left p)) ∧ w = w' := by
  by_cases hp : pidB p = true
  · have hM : M.left p = (leftTo M p 6 : Nat) := by unfold FM.left leftTo; rw [if_pos hp]
    obtain ⟨hw, hlt, f, hr, hFb, hFn⟩ := h
    have HM := Lib.hid hM
    clear hM
    go_enter Try.func31, Try.ntmps31
    go_wp2
    go_loop [5, 8] (fun n i => ∃ k : Nat, k ≤ 6 ∧ n = .int .i64 (leftTo M p k : Nat) ∧ i = .int .i64 k) (fun _ i => 6 - (intOf i).toNat)
    case atStart => exact ⟨0, by omega, rfl, rfl⟩
    case round =>
      obtain ⟨k, hk, rfl, rfl⟩ := hrel
      by_cases hk6 : k < 6
      · have hfdk : fdB (k : Int) = true := by simp [fdB]; omega
        have ha := fat_in b p k hp hfdk w
        have t0 := (hr.cell (idxF p k) (pidB_idx hp hfdk)).1
        have hs := leftTo_succ M p k
        have hle := leftTo_le M p k
        obtain ⟨i, hii⟩ : ∃ i, i = idxF p k := ⟨_, rfl⟩
        rw [← hii] at ha t0 hs
        cases hg : M.get i with
        | none =>
          rw [hg] at t0 hs
          have HS : Hid (leftTo M p (k + 1) = leftTo M p k + 1) := hs
          simp only [ptrF] at t0
          clear hr hs hg hii
          go_wp2_with fail
          refine ha.mono ?_
          rintro r w' ⟨rfl, rfl⟩
          clear ha
          go_wp2
          go_round
          case rel => exact ⟨k + 1, by omega, by rw [HS.out]; go_num, by go_num⟩
          case measure => simp [intOf]; omega
        | some m =>
          rw [hg] at t0 hs
          have HS : Hid (leftTo M p (k + 1) = leftTo M p k) := hs
          simp only [ptrF] at t0
          clear hr hs hg hii
          go_wp2_with fail
          refine ha.mono ?_
          rintro r w' ⟨rfl, rfl⟩
          clear ha
          go_wp2
          go_round
          case rel => exact ⟨k + 1, by omega, by rw [HS.out], by go_num⟩
          case measure => simp [intOf]; omega
      · have hk6' : k = 6 := by omega
        subst hk6'
        clear hr
        go_wp2
        go_ret
        exact ⟨ret_int HM.out.symm, rfl⟩
  · have hM : M.left p = 0 := by unfold FM.left; rw [if_neg hp]
    rw [hM]
    exact fleft_zero _ p w (fun d _ => fat_out b p d (by simp [hp]) w)

end Go.Proofs.Ytpclhecpfjkehaa
