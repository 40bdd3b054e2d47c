/- janusref08.Holders. -/
import Derived.Test.YtpclhecpfjkehaaRefW5
import Derived.Test.YtpclhecpfjkehaaRefW6
import Derived.Test.YtpclhecpfjkehaaRefW7
namespace Go.Proofs.Ytpclhecpfjkehaa
open Go.RowKit

theorem putL_cons_lt {x v : Int} {l : List Int} (h : x < v) : putL (x :: l) v = x :: putL l v := by
  unfold putL
  rw [List.takeWhile_cons, List.dropWhile_cons]
  simp [h]

theorem putL_cons_eq {v : Int} {l : List Int} : putL (v :: l) v = v :: l := by
  unfold putL
  rw [List.takeWhile_cons, List.dropWhile_cons]
  simp [putTail]

theorem putL_gt {v : Int} {l : List Int} (h : ∀ y ∈ l, v < y) : putL l v = v :: l := by
  cases l with
  | nil => rfl
  | cons y r =>
    have hy := h y (by simp)
    unfold putL
    rw [List.takeWhile_cons, List.dropWhile_cons]
    have h1 : ¬ y < v := by omega
    have h2 : ¬ y = v := by omega
    simp [h1, h2, putTail]

theorem putL_filter (S : Nat → Bool) (e : Nat) : ∀ R : List Nat, R.Pairwise (· < ·) → e ∈ R → putL ((R.filter S).map fun j : Nat => (j : Int)) e = (R.filter fun j => S j || j == e).map fun j : Nat => (j : Int)
  | [], _, h => by simp at h
  | a :: R, hp, he => by
    rw [List.pairwise_cons] at hp
    by_cases ha : a = e
    · subst ha
      have hne : (R.filter fun j => S j || j == a) = R.filter S := by
        apply List.filter_congr
        intro j hj
        have := hp.1 j hj
        have : (j == a) = false := by rw [beq_eq_false_iff_ne]; omega
        rw [this, Bool.or_false]
      have hgt : ∀ y ∈ (R.filter S).map (fun j : Nat => (j : Int)), (a : Int) < y := by
        intro y hy
        obtain ⟨j, hj, rfl⟩ := List.mem_map.1 hy
        have := hp.1 j (List.mem_filter.1 hj).1
        omega
      rw [List.filter_cons_of_pos (p := fun j => S j || j == a) (by simp), hne, List.map_cons]
      cases hS : S a with
      | true => rw [List.filter_cons_of_pos (by simp [hS]), List.map_cons, putL_cons_eq]
      | false => rw [List.filter_cons_of_neg (by simp [hS]), putL_gt hgt]
    · have heR : e ∈ R := by
        rcases List.mem_cons.1 he with h | h
        · exact absurd h.symm ha
        · exact h
      have hlt := hp.1 e heR
      have ih := putL_filter S e R hp.2 heR
      have hb : (a == e) = false := by rw [beq_eq_false_iff_ne]; exact ha
      cases hS : S a with
      | true => rw [List.filter_cons_of_pos (by simp [hS]), List.filter_cons_of_pos (by simp [hS]), List.map_cons, List.map_cons, putL_cons_lt (by omega), ih]
      | false => rw [List.filter_cons_of_neg (by simp [hS]), List.filter_cons_of_neg (by simp [hS, hb]), ih]

/-- Who of L's has (kind, id). -/
def HO (L : List CE) (k i : Int) : List Int := ((List.range 12).filter fun e : Nat => L.any fun c => c.env == (e : Int) && coverB c.x k i 0).map fun e : Nat => (e : Int)

theorem HO_len (L : List CE) (k i : Int) : (HO L k i).length ≤ 12 := by
  unfold HO
  rw [List.length_map]
  exact Nat.le_trans (List.length_filter_le _ _) (by simp)

theorem HO_step (L : List CE) (c : CE) (k i : Int) (hc : coverB c.x k i 0 = true) (he : isB c.env = true) : HO (L ++ [c]) k i = putL (HO L k i) c.env := by
  have he' : 0 ≤ c.env ∧ c.env < 12 := by simpa [isB] using he
  obtain ⟨e, hce⟩ : ∃ e : Nat, c.env = e := ⟨c.env.toNat, by omega⟩
  have h := putL_filter (fun e : Nat => L.any fun c => c.env == (e : Int) && coverB c.x k i 0) e (List.range 12) List.pairwise_lt_range (by rw [List.mem_range]; omega)
  unfold HO
  rw [hce, h]
  congr 1
  apply List.filter_congr
  intro j _
  rw [List.any_append, List.any_cons, List.any_nil, hc, hce]
  have : ((e : Int) == (j : Int)) = (j == e) := by
    by_cases hj : j = e
    · simp [hj]
    · rw [beq_eq_false_iff_ne.2 hj, beq_eq_false_iff_ne]; omega
  rw [this, Bool.and_true, Bool.or_false]

theorem HO_skip (L : List CE) (c : CE) (k i : Int) (hc : coverB c.x k i 0 = false) : HO (L ++ [c]) k i = HO L k i := by
  unfold HO
  congr 1
  apply List.filter_congr
  intro j _
  rw [List.any_append, List.any_cons, List.any_nil, hc, Bool.and_false, Bool.or_false, Bool.or_false]

set_option maxRecDepth 100000 in
set_option maxHeartbeats 800000 in
theorem rholders {w : World} {x : Nat} {M : CM} {F : Nat → Prop} (h : RCaps w x M F) (k i : Int) (hi : i ≤ 9223372036854775807) :
    Calls Try.prog 15 #[.pointer (some ⟨x, 0, none⟩), .int .i64 k, .int .i64 i] w fun y w' =>
      ∃ v, y = .returned v ∧ w'.ownsRow w.heap.size 3 1 v (M.holders k i).length ((M.holders k i).map (Value.int .i64)) ∧ Below w.heap.size w w' := by
  obtain ⟨A, cap, h0, _, hlen, hrow⟩ := h.reads
  have hxl := h.lt x h.fx
  have hwf := h.wf
  have hmay : ∀ c ∈ M.L, (0 ≤ c.x.id ∧ c.x.id ≤ 1048576) ∧ (1 ≤ c.x.len ∧ c.x.len ≤ 1048576) ∧ (1 ≤ c.x.rights ∧ c.x.rights ≤ 7) := by
    intro c hc
    have := hwf.may c hc
    simp [mayB] at this
    omega
  have henv : ∀ c ∈ M.L, isB c.env = true := fun c hc => by
    have := hwf.env c hc
    simp [isB]; omega
  have hlast : ∀ (v : Value) (w' : World), w'.ownsRow w.heap.size 3 1 v (HO (M.L.take M.L.length) k i).length (rowV (HO (M.L.take M.L.length) k i)) → w'.ownsRow w.heap.size 3 1 v (M.holders k i).length ((M.holders k i).map (Value.int .i64)) := by
    intro v w' h1
    rw [List.take_length] at h1
    exact h1
  have HLa := Lib.hid hlast
  clear h hlast
  go_enter Try.func15, Try.ntmps15
  go_wp2
  go_loopw [7, 8] (fun o t wr => ∃ n : Nat, n ≤ M.L.length ∧ t = .int .i64 n ∧ Below w.heap.size w wr ∧ wr.ownsRow w.heap.size 3 1 o (HO (M.L.take n) k i).length (rowV (HO (M.L.take n) k i))) (fun _ t _ => M.L.length - (intOf t).toNat)
  case atStart => exact ⟨0, by omega, rfl, Below.refl _ _, World.ownsRow_nil _ _ _ _⟩
  case round =>
    obtain ⟨n, hn, rfl, hb, hown⟩ := hrel
    have r0 : wr.cell? ⟨x, 0, none⟩ = some (.slice A M.L.length cap) := by rw [hb.cell hxl]; exact h0
    by_cases hlt : n < M.L.length
    · obtain ⟨c, hc⟩ : ∃ c, c = M.L[n] := ⟨_, rfl⟩
      have hck : M.L[n]? = some c := by rw [hc]; exact List.getElem?_eq_getElem hlt
      have hcm := List.mem_of_getElem? hck
      obtain ⟨m1, m2, m3⟩ := hmay c hcm
      obtain ⟨g, rfl, hg, _, hcell⟩ := hrow n c hck
      have r4 : wr.cell? ⟨g, n * 8 + 4, none⟩ = some (.int .i64 c.x.kind) := by rw [hb.cell hg]; exact hcell 4 _ (by omega) rfl
      have r5 : wr.cell? ⟨g, n * 8 + 5, none⟩ = some (.int .i64 c.x.id) := by rw [hb.cell hg]; exact hcell 5 _ (by omega) rfl
      have r6 : wr.cell? ⟨g, n * 8 + 6, none⟩ = some (.int .i64 c.x.len) := by rw [hb.cell hg]; exact hcell 6 _ (by omega) rfl
      have r7 : wr.cell? ⟨g, n * 8 + 7, none⟩ = some (.int .i64 c.x.rights) := by rw [hb.cell hg]; exact hcell 7 _ (by omega) rfl
      have r2 : w.cell? ⟨g, n * 8 + 2, none⟩ = some (.int .i64 c.env) := hcell 2 _ (by omega) rfl
      have htk : M.L.take (n + 1) = M.L.take n ++ [c] := by rw [List.take_add_one, hck]; rfl
      have hHO1 : coverB c.x k i 0 = true → HO (M.L.take (n + 1)) k i = putL (HO (M.L.take n) k i) c.env := fun h1 => by rw [htk]; exact HO_step _ _ _ _ h1 (henv c hcm)
      have hHO2 : coverB c.x k i 0 = false → HO (M.L.take (n + 1)) k i = HO (M.L.take n) k i := fun h1 => by rw [htk]; exact HO_skip _ _ _ _ h1
      have H1 := Lib.hid hHO1
      have H2 := Lib.hid hHO2
      have hcv := rcovers c.x.kind c.x.id c.x.len c.x.rights k i 0 wr m1 m2 m3 (by omega) hi
      have hl12 := HO_len (M.L.take n) k i
      obtain ⟨hs, hhs⟩ : ∃ hs, hs = HO (M.L.take n) k i := ⟨_, rfl⟩
      rw [← hhs] at hown hl12
      have HH := Lib.hid hhs
      clear hck hc hrow hmay hcell hHO1 hHO2 m1 m2 m3 hcm htk henv hhs
      obtain ⟨bv, hbv⟩ : ∃ bv, bv = coverB ⟨c.x.kind, c.x.id, c.x.len, c.x.rights⟩ k i 0 := ⟨_, rfl⟩
      rw [← hbv] at hcv
      have HB := Lib.hid hbv
      clear hbv
      cases bv with
      | true =>
        go_wp2_with fail
        refine hcv.mono ?_
        rintro y w1 ⟨rfl, hb1⟩
        have hb2 := hb.trans (hb1.mono hb.size)
        have q0 : w1.cell? ⟨x, 0, none⟩ = some (.slice (some ⟨g, 0, none⟩) M.L.length cap) := by rw [hb2.cell hxl]; exact h0
        have q2 : w1.cell? ⟨g, n * 8 + 2, none⟩ = some (.int .i64 c.env) := by rw [hb2.cell hg]; exact r2
        have hput := rputL _ hs c.env w.heap.size w1 (own_mod (G := fun _ => False) hown (Mod.of_below hb1) (fun _ _ h => h)) (by omega)
        clear hcv r0 r4 r5 r6 r7 hown
        go_wp2_with fail
        refine hput.mono ?_
        rintro y w2 ⟨u', rfl, hown2, hb3⟩
        have hb4 := hb2.trans (hb3.mono hb2.size)
        have hsz := hb2.size
        clear hput q0 q2
        go_wp2
        go_roundw
        case rel =>
          refine ⟨n + 1, by omega, by go_num, hb4, ?_⟩
          rw [H1.out HB.out.symm, ← HH.out]
          exact own_le hown2 hsz
        case measure => simp [intOf]; omega
      | false =>
        go_wp2_with fail
        refine hcv.mono ?_
        rintro y w1 ⟨rfl, hb1⟩
        have hb2 := hb.trans (hb1.mono hb.size)
        have hown2 := own_mod (G := fun _ => False) hown (Mod.of_below hb1) (fun _ _ h => h)
        clear hcv r0 r2 r4 r5 r6 r7
        go_wp2
        go_roundw
        case rel =>
          refine ⟨n + 1, by omega, by go_num, hb2, ?_⟩
          rw [H2.out HB.out.symm, ← HH.out]
          exact hown2
        case measure => simp [intOf]; omega
    · have hnl : n = M.L.length := by omega
      subst hnl
      have HW := Lib.hid hown
      clear hrow hmay hown
      go_wp2
      go_ret
      exact ⟨_, rfl, HLa.out _ _ HW.out, hb⟩

end Go.Proofs.Ytpclhecpfjkehaa
