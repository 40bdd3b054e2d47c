/- caps: each. -/
import Derived.Test.YtpclhecpfjkehaaCapsW8
namespace Go.Proofs.Ytpclhecpfjkehaa
open Go.RowKit

theorem arr65 (w : World) (f : Nat → Value) (k : Nat) (hk : k < 65) :
    (Instr.index 85 (.agg (rowA 65 f)) (.int .i64 k)).run Try.prog w = .ok (f k) w :=
  run_index_one w 85 84 65 _ k (f k) _ Try.underlying85 Try.underlying84 rfl (by kernel_rfl) hk (rowA_at 65 f k hk)

set_option maxRecDepth 100000 in
set_option maxHeartbeats 400000 in
/-- 'each': whatever is called for each node in its order. -/
theorem each_any (g b : Nat) (hg : ∀ (args : Array Value) (w : World), (callFunc g args).run Try.prog w = .ok (.enter g args) w) (c0 c1 : Addr) (T : Nat → Nat → Option Addr) (I : Nat → World → Prop)
    (hT : ∀ k w, I k w → ∀ e s, e < 12 → s < 65 → w.cell? ⟨b, e * 65 + s, none⟩ = some (.pointer (T e s)))
    (hnil : ∀ e s w, e < 12 → s < 65 → T e s = none → I (e * 65 + s) w → I (e * 65 + s + 1) w)
    (hcall : ∀ e s a w, e < 12 → s < 65 → T e s = some a → I (e * 65 + s) w →
      Calls Try.prog g #[.pointer (some a), .pointer (some c0), .pointer (some c1)] w fun y w' => y = .returned (.tuple #[]) ∧ I (e * 65 + s + 1) w')
    (w : World) (h0 : I 0 w) :
    Calls Try.prog 84 #[.pointer (some ⟨b, 0, none⟩), .func (.func g) #[] #[.pointer (some c0), .pointer (some c1)]] w fun y w' =>
      y = .returned (.tuple #[]) ∧ I 780 w' := by
  go_enter Try.func84, Try.ntmps84
  go_wp2
  go_loopw [7] (fun t wr => ∃ e : Nat, e ≤ 12 ∧ t = .int .i64 e ∧ I (e * 65) wr) (fun t _ => 12 - (intOf t).toNat)
  case atStart => exact ⟨0, by omega, rfl, by simpa using h0⟩
  case round =>
    obtain ⟨e, he, rfl, hI⟩ := hrel
    by_cases hlt : e < 12
    · have hrow : ∀ j, j < 65 → wr.cell? ((⟨b, e * 65, none⟩ : Addr).add j) = some (.pointer (T e j)) := by
        intro j hj; rw [add_mk]; exact hT _ _ hI e j hlt hj
      clear hT
      have hN := @hnil e
      have hC := @hcall e
      clear hnil hcall
      obtain ⟨wo, rfl⟩ : ∃ wo : World, wo = wr := ⟨_, rfl⟩
      go_wp2_with (with_reducible refine wpList_load_fn rfl 85 _ rfl ⟨b, e * 65, none⟩ rfl 65 (fun j => .pointer (T e j)) _ Try.underlying85 rfl (by kernel_rfl) hrow ?_)
      have hix := arr65
      go_loopw [16] (fun u wr => ∃ s : Nat, s ≤ 65 ∧ u = .int .i64 s ∧ I (e * 65 + s) wr) (fun u _ => 65 - (intOf u).toNat)
      case atStart => exact ⟨0, by omega, rfl, hI⟩
      case round =>
        obtain ⟨s, hs, rfl, hI1⟩ := hrel
        clear hI hrow
        by_cases hls : s < 65
        · have hix1 := fun w => hix w (fun j => .pointer (T e j)) s hls
          clear hix
          cases ht : T e s with
          | none =>
            have hI2 := hN s _ hlt hls ht hI1
            rw [ht] at hix1
            clear hN hC ht
            go_wp2
            go_roundw
            case rel => exact ⟨s + 1, by omega, by go_num, hI2⟩
            case measure => simp [intOf]; omega
          | some a =>
            have hI2 := hC s a _ hlt hls ht hI1
            rw [ht] at hix1
            clear hN hC ht
            go_wp2_with fail
            refine hI2.mono ?_
            rintro y w1 ⟨rfl, hI3⟩
            clear hI2 hix1
            go_wp2
            go_roundw
            case rel => exact ⟨s + 1, by omega, by go_num, hI3⟩
            case measure => simp [intOf]; omega
        · have hs65 : s = 65 := by omega
          subst hs65
          clear hN hC hix
          go_wp2
          go_roundw
          case rel => exact ⟨e + 1, by omega, by go_num, by rw [show (e + 1) * 65 = e * 65 + 65 by omega]; exact hI1⟩
          case measure => simp [intOf]; omega
    · have he12 : e = 12 := by omega
      subst he12
      clear hT hnil hcall
      go_wp2
      go_end0
      exact ⟨rfl, hI⟩

theorem call_drop1 (args : Array Value) (w : World) : (callFunc 85 args).run Try.prog w = .ok (.enter 85 args) w := by kernel_rfl
theorem call_revoke1 (args : Array Value) (w : World) : (callFunc 87 args).run Try.prog w = .ok (.enter 87 args) w := by kernel_rfl

end Go.Proofs.Ytpclhecpfjkehaa
