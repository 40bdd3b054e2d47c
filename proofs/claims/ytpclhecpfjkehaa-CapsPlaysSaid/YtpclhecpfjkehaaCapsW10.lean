/- caps: Drop. -/
import Derived.Test.YtpclhecpfjkehaaCapsW9
import Derived.LaidEqlPtr
namespace Go.Proofs.Ytpclhecpfjkehaa
open Go.RowKit

theorem node_nil (a : Addr) (w : World) : (binOp .eql 84 (.pointer none) (.pointer (some a))).run Try.prog w = .ok (.bool false) w := by
  have h : ∀ d : Nat, (Op.equalIn (d + 1) 84 (.pointer none) (.pointer (some a))).run Try.prog w = .ok false w := fun d => by
    simp [Op.equalIn, run_underlying Try.underlying84]
  simp only [binOp]
  simp [Op.equal, Op.maxDepth, h 9999]

theorem nodeInfo : (Try.prog.info? 102).map (fun i => (i.zero, i.size, i.bytes)) = some (some (.agg #[.int .i64 0, .int .i64 0, .int .i64 0, .int .i64 0, .int .i64 0, .int .i64 0, .pointer none]), 7, 56) := by kernel_rfl

theorem node_same (a : Addr) (w : World) : (binOp .eql 84 (.pointer (some a)) (.pointer (some a))).run Try.prog w = .ok (.bool true) w := by
  obtain ⟨i0, hi, hz0, hz1, hz2⟩ := info_parts nodeInfo
  exact run_eql_ptr_same w a Try.underlying84 hi

theorem node_other (j k : Nat) (w : World) (ca cb : Array Value) (ta tb : TypeId) (hne : j ≠ k) (ha : w.heap[j]? = some (.cells ca ta (0, 0))) (hb : w.heap[k]? = some (.cells cb tb (0, 0))) :
    (binOp .eql 84 (.pointer (some ⟨j, 0, none⟩)) (.pointer (some ⟨k, 0, none⟩))).run Try.prog w = .ok (.bool false) w := by
  obtain ⟨i0, hi, hz0, hz1, hz2⟩ := info_parts nodeInfo
  exact run_eql_ptr_other w Try.underlying84 hi (by rw [hz1]; decide) (fun h => hne (congrArg Addr.block h)) ha hb

def mp (o : Option Nat) : Option Addr := o.map fun k => ⟨k, 0, none⟩

set_option maxRecDepth 100000 in
set_option maxHeartbeats 800000 in
theorem drop1 (N G C0 C1 : Nat) (a b c d : Int) (nof : Option Nat) (a' b' c' d' : Int) (gof : Option Nat) (l : Bool) (w : World)
    (hb : 0 ≤ b ∧ b ≤ 1048576) (hc : 1 ≤ c ∧ c ≤ 1048576) (hb' : 0 ≤ b' ∧ b' ≤ 1048576) (hc' : 1 ≤ c' ∧ c' ≤ 1048576)
    (n0 : w.cell? ⟨N, 0, none⟩ = some (.int .i64 a)) (n1 : w.cell? ⟨N, 1, none⟩ = some (.int .i64 b)) (n2 : w.cell? ⟨N, 2, none⟩ = some (.int .i64 c)) (n3 : w.cell? ⟨N, 3, none⟩ = some (.int .i64 d))
    (n6 : w.cell? ⟨N, 6, none⟩ = some (.pointer (mp nof))) (nf : w.frozen? ⟨N, 6, none⟩ = false)
    (g0 : w.cell? ⟨G, 0, none⟩ = some (.int .i64 a')) (g1 : w.cell? ⟨G, 1, none⟩ = some (.int .i64 b')) (g2 : w.cell? ⟨G, 2, none⟩ = some (.int .i64 c')) (g3 : w.cell? ⟨G, 3, none⟩ = some (.int .i64 d'))
    (g6 : w.cell? ⟨G, 6, none⟩ = some (.pointer (mp gof)))
    (k0 : w.cell? ⟨C0, 0, none⟩ = some (.pointer (some ⟨G, 0, none⟩))) (k1 : w.cell? ⟨C1, 0, none⟩ = some (.bool l)) (kf : w.frozen? ⟨C1, 0, none⟩ = false)
    (hK : ∀ k, nof = some k → ∃ cs, w.heap[k]? = some (.cells cs 102 (0, 0))) (hG : ∃ cs, w.heap[G]? = some (.cells cs 102 (0, 0))) :
    Calls Try.prog 85 #[.pointer (some ⟨N, 0, none⟩), .pointer (some ⟨C0, 0, none⟩), .pointer (some ⟨C1, 0, none⟩)] w fun e w' =>
      e = .returned (.tuple #[]) ∧ ∃ w1, Below w.heap.size (if nof = some G then w.setCell ⟨N, 6, none⟩ (.pointer (mp gof)) else w) w1 ∧ Same w' (w1.setCell ⟨C1, 0, none⟩ (.bool (l && !meetB ⟨a, b, c, d⟩ ⟨a', b', c', d'⟩))) := by
  have heq := node_nil ⟨G, 0, none⟩
  have hgo : ∃ go : Option Addr, mp gof = go := ⟨_, rfl⟩
  obtain ⟨go, hgo⟩ := hgo
  rw [hgo] at g6 ⊢
  clear hgo
  rcases nof with _ | k
  · have n6' : w.cell? ⟨N, 6, none⟩ = some (.pointer none) := n6
    rw [if_neg (by simp)]
    clear n6
    cases l with
    | false =>
      go_enter Try.func85, Try.ntmps85
      go_wp2_with fail
      go_quiet (fail)
      go_wp2
      obtain ⟨wq, hwq⟩ : ∃ wq : World, wq = w.drewN nq := ⟨_, rfl⟩
      rw [← hwq]
      have HB : Hid (Below w.heap.size w wq) := below_same (Below.refl _ _) (by rw [hwq]; exact Same.drewN _ _)
      have HS : Hid (w.heap.size ≤ wq.heap.size) := HB.out.size
      have hS : Same wq w := by rw [hwq]; exact Same.drewN _ _
      clear hwq
      rw [hS.cell] at n0 n1 n2 n3 g0 g1 g2 g3 k0 k1
      rw [hS.frozen] at kf
      clear hS n6' nf g6 heq
      go_wp2
      go_region
      all_goals go_wp2
      all_goals go_end0
      all_goals exact ⟨rfl, wq, HB.out, rfl, rfl, rfl, rfl⟩
    | true =>
      go_enter Try.func85, Try.ntmps85
      go_wp2_with fail
      go_quiet (fail)
      go_wp2
      obtain ⟨wq, hwq⟩ : ∃ wq : World, wq = w.drewN nq := ⟨_, rfl⟩
      rw [← hwq]
      have HB : Hid (Below w.heap.size w wq) := below_same (Below.refl _ _) (by rw [hwq]; exact Same.drewN _ _)
      have HS : Hid (w.heap.size ≤ wq.heap.size) := HB.out.size
      have hS : Same wq w := by rw [hwq]; exact Same.drewN _ _
      clear hwq
      rw [hS.cell] at n0 n1 n2 n3 g0 g1 g2 g3 k0 k1
      rw [hS.frozen] at kf
      clear hS n6' nf g6 heq
      go_wp2
      go_still_tail 10, (by kernel_rfl)
      go_wp2_with fail
      refine (meet_any a b c d a' b' c' d' _ hb hc hb' hc').mono ?_
      rintro e w1 ⟨rfl, hm⟩
      have hm' : Below wq.heap.size wq w1 := ((Below.refl _ _).drew).trans hm
      have kl : C1 < wq.heap.size := World.block_lt_of_cell? _ _ k1
      have q1 : w1.cell? ⟨C1, 0, none⟩ = some (.bool true) := by rw [hm'.cell kl]; exact k1
      have qf : w1.frozen? ⟨C1, 0, none⟩ = false := by rw [hm'.frozen kl]; exact kf
      have HB2 : Hid (Below w.heap.size w w1) := HB.out.trans (hm'.mono HS.out)
      clear hm hm' k1 kf n0 n1 n2 n3 g0 g1 g2 g3 k0
      go_wp2
      go_end0
      exact ⟨rfl, w1, HB2.out, rfl, rfl, rfl, rfl⟩
  · by_cases hkG : k = G
    · subst hkG
      have n6' : w.cell? ⟨N, 6, none⟩ = some (.pointer (some ⟨k, 0, none⟩)) := n6
      have heq2 := node_same ⟨k, 0, none⟩
      rw [if_pos rfl]
      clear n6 heq
      cases l with
      | false =>
        go_enter Try.func85, Try.ntmps85
        go_wp2_with fail
        go_quiet (fail)
        go_wp2
        obtain ⟨wq, hwq⟩ : ∃ wq : World, wq = (w.drewN nq).setCell ⟨N, 6, none⟩ (.pointer go) := ⟨_, rfl⟩
        rw [← hwq]
        have HB : Hid (Below w.heap.size (w.setCell ⟨N, 6, none⟩ (.pointer go)) wq) := below_same (Below.refl _ _) (by rw [hwq]; exact ⟨rfl, rfl, rfl, rfl⟩)
        have HS : Hid (w.heap.size ≤ wq.heap.size) := by
          show w.heap.size ≤ wq.heap.size
          have := HB.out.size
          simpa using this
        have hS : Same wq (w.setCell ⟨N, 6, none⟩ (.pointer go)) := by rw [hwq]; exact ⟨rfl, rfl, rfl, rfl⟩
        clear hwq
        rw [← World.cell?_setCell_other w ⟨N, 6, none⟩ _ (.pointer go) (by simp), hS.cell] at n0 n1 n2 n3
        rw [← World.cell?_setCell_other w ⟨N, 6, none⟩ _ (.pointer go) (by simp), hS.cell] at g0 g1 g2 g3
        rw [← World.cell?_setCell_other w ⟨N, 6, none⟩ _ (.pointer go) (by simp), hS.cell] at k0
        rw [← World.cell?_setCell_other w ⟨N, 6, none⟩ _ (.pointer go) (by simp), hS.cell] at k1
        rw [← World.frozen?_setCell w ⟨N, 6, none⟩ _ (.pointer go), hS.frozen] at kf
        clear hS n6' nf g6 heq2
        go_wp2
        go_region
        all_goals go_wp2
        all_goals go_end0
        all_goals exact ⟨rfl, wq, HB.out, rfl, rfl, rfl, rfl⟩
      | true =>
        go_enter Try.func85, Try.ntmps85
        go_wp2_with fail
        go_quiet (fail)
        go_wp2
        obtain ⟨wq, hwq⟩ : ∃ wq : World, wq = (w.drewN nq).setCell ⟨N, 6, none⟩ (.pointer go) := ⟨_, rfl⟩
        rw [← hwq]
        have HB : Hid (Below w.heap.size (w.setCell ⟨N, 6, none⟩ (.pointer go)) wq) := below_same (Below.refl _ _) (by rw [hwq]; exact ⟨rfl, rfl, rfl, rfl⟩)
        have HS : Hid (w.heap.size ≤ wq.heap.size) := by
          show w.heap.size ≤ wq.heap.size
          have := HB.out.size
          simpa using this
        have hS : Same wq (w.setCell ⟨N, 6, none⟩ (.pointer go)) := by rw [hwq]; exact ⟨rfl, rfl, rfl, rfl⟩
        clear hwq
        rw [← World.cell?_setCell_other w ⟨N, 6, none⟩ _ (.pointer go) (by simp), hS.cell] at n0 n1 n2 n3
        rw [← World.cell?_setCell_other w ⟨N, 6, none⟩ _ (.pointer go) (by simp), hS.cell] at g0 g1 g2 g3
        rw [← World.cell?_setCell_other w ⟨N, 6, none⟩ _ (.pointer go) (by simp), hS.cell] at k0
        rw [← World.cell?_setCell_other w ⟨N, 6, none⟩ _ (.pointer go) (by simp), hS.cell] at k1
        rw [← World.frozen?_setCell w ⟨N, 6, none⟩ _ (.pointer go), hS.frozen] at kf
        clear hS n6' nf g6 heq2
        go_wp2
        go_still_tail 10, (by kernel_rfl)
        go_wp2_with fail
        refine (meet_any a b c d a' b' c' d' _ hb hc hb' hc').mono ?_
        rintro e w1 ⟨rfl, hm⟩
        have hm' : Below wq.heap.size wq w1 := ((Below.refl _ _).drew).trans hm
        have kl : C1 < wq.heap.size := World.block_lt_of_cell? _ _ k1
        have q1 : w1.cell? ⟨C1, 0, none⟩ = some (.bool true) := by rw [hm'.cell kl]; exact k1
        have qf : w1.frozen? ⟨C1, 0, none⟩ = false := by rw [hm'.frozen kl]; exact kf
        have HB2 : Hid (Below w.heap.size (w.setCell ⟨N, 6, none⟩ (.pointer go)) w1) := HB.out.trans (hm'.mono HS.out)
        clear hm hm' k1 kf n0 n1 n2 n3 g0 g1 g2 g3 k0
        go_wp2
        go_end0
        exact ⟨rfl, w1, HB2.out, rfl, rfl, rfl, rfl⟩
    · obtain ⟨cK, hK⟩ := hK k rfl
      obtain ⟨cG, hG⟩ := hG
      have n6' : w.cell? ⟨N, 6, none⟩ = some (.pointer (some ⟨k, 0, none⟩)) := n6
      have heq2 : ∀ n : Nat, (binOp .eql 84 (.pointer (some ⟨k, 0, none⟩)) (.pointer (some ⟨G, 0, none⟩))).run Try.prog (w.drewN n) = .ok (.bool false) (w.drewN n) := fun n => node_other k G (w.drewN n) cK cG _ _ hkG hK hG
      rw [if_neg (by simpa using hkG)]
      clear n6 heq hK hG
      cases l with
      | false =>
        go_enter Try.func85, Try.ntmps85
        go_wp2_with fail
        go_quiet (fail)
        go_wp2
        obtain ⟨wq, hwq⟩ : ∃ wq : World, wq = w.drewN nq := ⟨_, rfl⟩
        rw [← hwq]
        have HB : Hid (Below w.heap.size w wq) := below_same (Below.refl _ _) (by rw [hwq]; exact Same.drewN _ _)
        have HS : Hid (w.heap.size ≤ wq.heap.size) := HB.out.size
        have hS : Same wq w := by rw [hwq]; exact Same.drewN _ _
        clear hwq
        rw [hS.cell] at n0 n1 n2 n3 g0 g1 g2 g3 k0 k1
        rw [hS.frozen] at kf
        clear hS n6' nf g6 heq2
        go_wp2
        go_region
        all_goals go_wp2
        all_goals go_end0
        all_goals exact ⟨rfl, wq, HB.out, rfl, rfl, rfl, rfl⟩
      | true =>
        go_enter Try.func85, Try.ntmps85
        go_wp2_with fail
        go_quiet (fail)
        go_wp2
        obtain ⟨wq, hwq⟩ : ∃ wq : World, wq = w.drewN nq := ⟨_, rfl⟩
        rw [← hwq]
        have HB : Hid (Below w.heap.size w wq) := below_same (Below.refl _ _) (by rw [hwq]; exact Same.drewN _ _)
        have HS : Hid (w.heap.size ≤ wq.heap.size) := HB.out.size
        have hS : Same wq w := by rw [hwq]; exact Same.drewN _ _
        clear hwq
        rw [hS.cell] at n0 n1 n2 n3 g0 g1 g2 g3 k0 k1
        rw [hS.frozen] at kf
        clear hS n6' nf g6 heq2
        go_wp2
        go_still_tail 10, (by kernel_rfl)
        go_wp2_with fail
        refine (meet_any a b c d a' b' c' d' _ hb hc hb' hc').mono ?_
        rintro e w1 ⟨rfl, hm⟩
        have hm' : Below wq.heap.size wq w1 := ((Below.refl _ _).drew).trans hm
        have kl : C1 < wq.heap.size := World.block_lt_of_cell? _ _ k1
        have q1 : w1.cell? ⟨C1, 0, none⟩ = some (.bool true) := by rw [hm'.cell kl]; exact k1
        have qf : w1.frozen? ⟨C1, 0, none⟩ = false := by rw [hm'.frozen kl]; exact kf
        have HB2 : Hid (Below w.heap.size w w1) := HB.out.trans (hm'.mono HS.out)
        clear hm hm' k1 kf n0 n1 n2 n3 g0 g1 g2 g3 k0
        go_wp2
        go_end0
        exact ⟨rfl, w1, HB2.out, rfl, rfl, rfl, rfl⟩

end Go.Proofs.Ytpclhecpfjkehaa
