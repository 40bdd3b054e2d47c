/- caps: Has. -/
import Derived.Test.YtpclhecpfjkehaaCapsW5
import Derived.StillTailTactics
import Derived.Deep.QuietTactic
import Derived.BigQuiet
namespace Go.Proofs.Ytpclhecpfjkehaa
open Go.RowKit

theorem has1_nil (B : Nat) (w : World) :
    Calls Try.prog 57 #[.pointer none, .pointer (some ⟨B, 0, none⟩), .pointer (some ⟨B + 1, 0, none⟩), .pointer (some ⟨B + 2, 0, none⟩)] w fun e w' =>
      e = .returned (.bool false) ∧ Below w.heap.size w w' := by
  go_enter Try.func57, Try.ntmps57
  go_wp2_with fail
  go_quiet (fail)
  go_wp2
  go_ret
  exact ⟨rfl, below_same (Below.refl _ _) ⟨rfl, rfl, rfl, rfl⟩⟩

set_option maxRecDepth 100000 in
theorem has1_some (B n : Nat) (a b c d k i r : Int) (w : World) (h0 : w.cell? ⟨B, 0, none⟩ = some (.int .i64 k)) (h1 : w.cell? ⟨B + 1, 0, none⟩ = some (.int .i64 i)) (h2 : w.cell? ⟨B + 2, 0, none⟩ = some (.int .i64 r))
    (n0 : w.cell? ⟨n, 0, none⟩ = some (.int .i64 a)) (n1 : w.cell? ⟨n, 1, none⟩ = some (.int .i64 b)) (n2 : w.cell? ⟨n, 2, none⟩ = some (.int .i64 c)) (n3 : w.cell? ⟨n, 3, none⟩ = some (.int .i64 d))
    (hb : 0 ≤ b ∧ b ≤ 1048576) (hc : 1 ≤ c ∧ c ≤ 1048576) (hd : 1 ≤ d ∧ d ≤ 7) (hr : 0 ≤ r ∧ r ≤ 7) :
    Calls Try.prog 57 #[.pointer (some ⟨n, 0, none⟩), .pointer (some ⟨B, 0, none⟩), .pointer (some ⟨B + 1, 0, none⟩), .pointer (some ⟨B + 2, 0, none⟩)] w fun e w' =>
      e = .returned (.bool (coverB ⟨a, b, c, d⟩ k i r)) ∧ Below w.heap.size w w' := by
  go_enter Try.func57, Try.ntmps57
  go_wp2_with fail
  go_still_tail 10, (by kernel_rfl)
  go_wp2_with (go_at_call 58; refine (covers_any a b c d k i r _ hb hc hd hr).mono ?_; rintro e w1 ⟨rfl, hw1⟩)
  go_ret
  exact ⟨rfl, ((Below.refl _ _).drew).trans hw1⟩

/-- The library's IndexFunc, at our nodes: what it needs of the function that it is given. -/
theorem indexFunc_has (I : World → Prop) (p : Nat → Bool) (V : Nat → Value) (b o n cap : Nat) (c0 c1 c2 : Addr) (hn : n ≤ 1000)
    (hcell : ∀ w, I w → ∀ j, j < n → w.cell? ⟨b, o + j, none⟩ = some (V j))
    (hcall : ∀ w, I w → ∀ j, j < n → Calls Try.prog 57 #[V j, .pointer (some c0), .pointer (some c1), .pointer (some c2)] w fun e w' => e = .returned (.bool (p j)) ∧ I w')
    (w : World) (hI : I w) :
    Calls Try.prog 89 #[.slice (some ⟨b, o, none⟩) n cap, .func (.func 57) #[] #[.pointer (some c0), .pointer (some c1), .pointer (some c2)]] w fun e w' =>
      I w' ∧ ∃ i : Int, e = .returned (.int .i64 i) ∧ (decide (0 ≤ i) = (List.range n).any p) := by
  go_enter Try.func89, Try.ntmps89
  go_wp2
  go_loopw [8] (fun i wr => I wr ∧ ∃ k : Nat, k ≤ n ∧ i = .int .i64 k ∧ ∀ j, j < k → p j = false) (fun i _ => n - (intOf i).toNat)
  case atStart => exact ⟨hI, 0, Nat.zero_le _, rfl, fun j hj => by omega⟩
  case round =>
    obtain ⟨hIr, k, hk, rfl, hpk⟩ := hrel
    by_cases hlt : k < n
    · have hck := hcell _ hIr k hlt
      have hcl := hcall _ hIr k hlt
      clear hcell hcall
      cases hp : p k with
      | false =>
        rw [hp] at hcl
        go_wp2_with fail
        refine hcl.mono ?_
        rintro e w1 ⟨rfl, hI1⟩
        clear hcl hck
        go_wp2
        go_roundw
        case rel =>
          refine ⟨hI1, k + 1, by omega, by go_num, fun j hj => ?_⟩
          by_cases e : j = k
          · subst e; exact hp
          · exact hpk j (by omega)
        case measure => simp [intOf]; omega
      | true =>
        rw [hp] at hcl
        go_wp2_with fail
        refine hcl.mono ?_
        rintro e w1 ⟨rfl, hI1⟩
        clear hcl hck
        go_wp2
        go_ret
        refine ⟨hI1, k, rfl, ?_⟩
        have : (List.range n).any p = true := List.any_eq_true.2 ⟨k, List.mem_range.2 hlt, hp⟩
        rw [this]; simp
    · have hkn : k = n := by omega
      subst hkn
      clear hcell hcall
      go_wp2
      go_ret
      refine ⟨hIr, -1, rfl, ?_⟩
      have : (List.range k).any p = false := by
        rw [List.any_eq_false]
        intro j hj
        rw [hpk j (List.mem_range.1 hj)]; simp
      rw [this]; rfl

end Go.Proofs.Ytpclhecpfjkehaa
