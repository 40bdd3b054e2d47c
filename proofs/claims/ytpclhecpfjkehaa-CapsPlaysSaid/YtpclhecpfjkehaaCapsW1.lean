/- The walks of caps' small functions: is, may, meet, covers, New, at. -/
import Derived.Test.YtpclhecpfjkehaaProg
import Derived.Test.YtpclhecpfjkehaaBase
import Derived.Test.YtpclhecpfjkehaaCapsM
import Derived.WalkLawsBesides
import Derived.Outline
namespace Go.Proofs.Ytpclhecpfjkehaa
open Go.RowKit

theorem is_any (e : Int) (w : World) :
    Calls Try.prog 55 #[.int .i64 e] w fun r w' => r = .returned (.bool (isB e)) ∧ w = w' := by
  go_enter Try.func55, Try.ntmps55
  go_wp2
  all_goals go_ret
  all_goals (refine ⟨?_, rfl⟩; simp [isB]; omega)

set_option maxHeartbeats 400000 in
theorem may_any (a b c d : Int) (w : World) :
    Calls Try.prog 79 #[.agg #[.int .i64 a, .int .i64 b, .int .i64 c, .int .i64 d]] w fun r w' =>
      r = .returned (.bool (mayB ⟨a, b, c, d⟩)) ∧ Below w.heap.size w w' := by
  go_enter Try.func79, Try.ntmps79
  go_wp2
  all_goals go_ret
  all_goals (refine ⟨ret_bool ?_, (Below.refl _ _).alloc (Nat.le_refl _) _⟩)
  all_goals (simp [mayB]; try omega)

theorem int07 {d : Int} (h : 0 ≤ d ∧ d ≤ 7) : d = 0 ∨ d = 1 ∨ d = 2 ∨ d = 3 ∨ d = 4 ∨ d = 5 ∨ d = 6 ∨ d = 7 := by omega

theorem and_sub (d r : Int) (hd : 0 ≤ d ∧ d ≤ 7) (hr : 0 ≤ r ∧ r ≤ 7) : (bits BinOp.and IntKind.i64 d r == r) = subB r d := by
  rcases int07 hd with rfl | rfl | rfl | rfl | rfl | rfl | rfl | rfl <;> rcases int07 hr with rfl | rfl | rfl | rfl | rfl | rfl | rfl | rfl <;> decide

theorem and_sub' (d r : Int) (hd : 0 ≤ d ∧ d ≤ 7) (hr : 0 ≤ r ∧ r ≤ 7) : (bits BinOp.and IntKind.i64 r d == r) = subB r d := by
  rcases int07 hd with rfl | rfl | rfl | rfl | rfl | rfl | rfl | rfl <;> rcases int07 hr with rfl | rfl | rfl | rfl | rfl | rfl | rfl | rfl <;> decide

theorem and_four (d : Int) (hd : 0 ≤ d ∧ d ≤ 7) : (bits BinOp.and IntKind.i64 d 4 == 0) = !subB 4 d := by
  rcases int07 hd with rfl | rfl | rfl | rfl | rfl | rfl | rfl | rfl <;> decide

theorem covers_any (a b c d k i r : Int) (w : World) (hb : 0 ≤ b ∧ b ≤ 1048576) (hc : 1 ≤ c ∧ c ≤ 1048576) (hd : 1 ≤ d ∧ d ≤ 7) (hr : 0 ≤ r ∧ r ≤ 7) :
    Calls Try.prog 58 #[.agg #[.int .i64 a, .int .i64 b, .int .i64 c, .int .i64 d], .int .i64 k, .int .i64 i, .int .i64 r] w fun e w' =>
      e = .returned (.bool (coverB ⟨a, b, c, d⟩ k i r)) ∧ Below w.heap.size w w' := by
  go_enter Try.func58, Try.ntmps58
  go_wp2
  all_goals go_ret
  all_goals (refine ⟨ret_bool ?_, (Below.refl _ _).alloc (Nat.le_refl _) _⟩)
  · rw [and_sub d r ⟨by omega, by omega⟩ hr]; simp [coverB, *]
  all_goals (simp [coverB, *]; try omega)

theorem max_eq (a b : Int) : (if a < b then b else a) = max a b := by omega

theorem meet_any (a b c d a' b' c' d' : Int) (w : World) (hb : 0 ≤ b ∧ b ≤ 1048576) (hc : 1 ≤ c ∧ c ≤ 1048576) (hb' : 0 ≤ b' ∧ b' ≤ 1048576) (hc' : 1 ≤ c' ∧ c' ≤ 1048576) :
    Calls Try.prog 86 #[.agg #[.int .i64 a, .int .i64 b, .int .i64 c, .int .i64 d], .agg #[.int .i64 a', .int .i64 b', .int .i64 c', .int .i64 d']] w fun e w' =>
      e = .returned (.bool (meetB ⟨a, b, c, d⟩ ⟨a', b', c', d'⟩)) ∧ Below w.heap.size w w' := by
  go_enter Try.func86, Try.ntmps86
  go_wp2
  all_goals go_ret
  all_goals (refine ⟨ret_bool ?_, (((Below.refl _ _).alloc (Nat.le_refl _) _).alloc (by simp) _).alloc (by simp; omega) _⟩)
  all_goals (simp [meetB, *]; try omega)

end Go.Proofs.Ytpclhecpfjkehaa
