/- caps: Holders. -/
import Derived.Test.YtpclhecpfjkehaaCapsW7
import Derived.Maps.AppendAt
namespace Go.Proofs.Ytpclhecpfjkehaa
open Go.RowKit

theorem below_grown {w w' : World} (h : Below w.heap.size w w') : w.grownBy w' none := ⟨h.os, h.tape, h.output, h.size, fun k hk _ => h.block k hk⟩

theorem own_below {w w' : World} {base : Nat} {e : TypeId} {size : Nat} {v : Value} {n : Nat} {xs : List Value} (h : w.ownsRow base e size v n xs) (hb : Below w.heap.size w w') : w'.ownsRow base e size v n xs :=
  h.kept (below_grown hb) (by cases hv : v.ownBlock <;> simp)

theorem intInfo : (Try.prog.info? 3).map (fun i => (i.zero, i.size, i.bytes)) = some (some (.int .i64 0), 1, 8) := by kernel_rfl

def holdTo (M : CM) (kind id : Int) (k : Nat) : List Int := ((List.range k).filter fun e : Nat => M.has (e : Int) kind id 0).map fun e : Nat => (e : Int)

theorem holdTo_succ (M : CM) (kind id : Int) (k : Nat) : holdTo M kind id (k + 1) = holdTo M kind id k ++ if M.has (k : Int) kind id 0 then [(k : Int)] else [] := by
  unfold holdTo
  rw [List.range_succ, List.filter_append, List.map_append]
  by_cases h : M.has (k : Int) kind id 0 = true <;> simp [h]

theorem holdTo_len (M : CM) (kind id : Int) (k : Nat) : (holdTo M kind id k).length ≤ k := by
  unfold holdTo
  rw [List.length_map]
  refine Nat.le_trans (List.length_filter_le _ _) (by simp)

set_option maxHeartbeats 400000 in
set_option maxRecDepth 100000 in
theorem holders_any {w : World} {b : Nat} {M : CM} {F : Nat → Prop} (h : Caps w b M F) (k i : Int) :
    Calls Try.prog 14 #[.pointer (some ⟨b, 0, none⟩), .int .i64 k, .int .i64 i] w fun y w' =>
      ∃ v, y = .returned v ∧ w'.ownsRow w.heap.size 3 1 v (M.holders k i).length ((M.holders k i).map (Value.int .i64)) ∧ Below w.heap.size w w' := by
  obtain ⟨i0, hi, hz0, hz1, hz2⟩ := info_parts intInfo
  go_enter Try.func14, Try.ntmps14
  go_wp2
  go_loopw [7, 9] (fun v t wr => Below w.heap.size w wr ∧ ∃ n : Nat, n ≤ 12 ∧ t = .int .i64 n ∧ wr.ownsRow w.heap.size 3 1 v (holdTo M k i n).length ((holdTo M k i n).map (Value.int .i64))) (fun _ t _ => 12 - (intOf t).toNat)
  case atStart => exact ⟨Below.refl _ _, 0, by omega, rfl, World.ownsRow_nil _ _ _ _⟩
  case round =>
    obtain ⟨hbr, n, hn, rfl, hown⟩ := hrel
    by_cases hlt : n < 12
    · have hcall := has_any (h.below hbr) n k i 0 (by omega)
      have hsz := hbr.size
      have hlen := holdTo_len M k i n
      have hsucc := holdTo_succ M k i n
      cases hp : M.has n k i 0 with
      | false =>
        rw [hp] at hcall hsucc
        simp only [Bool.false_eq_true, if_false, List.append_nil] at hsucc
        have HS : Hid (holdTo M k i (n + 1) = holdTo M k i n) := hsucc
        clear hsucc hp
        go_wp2_with fail
        refine hcall.mono ?_
        rintro y w1 ⟨rfl, hb⟩
        have hown1 := own_below hown hb
        clear hcall hown
        go_wp2
        go_roundw
        case rel =>
          refine ⟨hbr.trans (hb.mono hsz), n + 1, by omega, by go_num, ?_⟩
          rw [HS.out]; exact hown1
        case measure => simp [intOf]; omega
      | true =>
        rw [hp] at hcall hsucc
        simp only [if_true] at hsucc
        have HS : Hid (holdTo M k i (n + 1) = holdTo M k i n ++ [(n : Int)]) := hsucc
        clear hsucc hp
        go_wp2_with fail
        refine hcall.mono ?_
        rintro y w1 ⟨rfl, hb⟩
        have hown1 := own_below hown hb
        have hsz1 := hb.size
        clear hcall hown
        go_wp2_with (at_builtin; refine wpList_append_own _ rfl _ _ 36 rfl w.heap.size 3 i0 (.int .i64 0) 1 8 Try.underlying36 hi hz0 hz1 hz2 rfl (by decide) _ _ _ rfl (hown1.alloc _) ⟨w1.heap.size, 0, none⟩ 1 1 [.int .i64 n] rfl rfl ?c1 ?c2 ?c3 ?c4 ?c5 ?_)
        case c1 => exact (cell_one_new _ _ _)
        case c2 => simp [Value.oneCell']
        case c3 => unfold maxLen; omega
        case c4 => omega
        case c5 => simp; omega
        intro v' w2 hown2 hg _
        have hb2 : Below w.heap.size w w2 := ((hbr.trans (hb.mono hsz)).alloc (by omega) _).grown hg (by simp; omega) (fun k hk => (hown1.alloc (.cells #[.int .i64 n] 3)).lt k hk |>.1)
        clear hg hown1
        go_wp2
        go_roundw
        case rel =>
          refine ⟨hb2, n + 1, by omega, by go_num, ?_⟩
          rw [HS.out, List.length_append, List.map_append]; exact hown2
        case measure => simp [intOf]; omega
    · have hkn : n = 12 := by omega
      subst hkn
      go_wp2
      go_ret
      exact ⟨_, rfl, hown, hbr⟩

end Go.Proofs.Ytpclhecpfjkehaa
