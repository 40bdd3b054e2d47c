/- Proved: for every list of deeds the law CapsPlays answers true: the program's capabilities and the reference's answer each deed alike, and the same environments have the same capabilities behind each (the row CapsPlaysSaid; no condition). -/
import Derived.Test.YtpclhecpfjkehaaRows
import Derived.Test.YtpclhecpfjkehaaRefW14
import Derived.Test.YtpclhecpfjkehaaOpen
import Derived.WalkKit
import Derived.ProofKit
import Derived.OpenShut
import Derived.ChangeOld
import Derived.Below
namespace Go.Proofs.Ytpclhecpfjkehaa.capsPlays
open Go.ChangeShapes Go.WideShapes Go.ChangeAt Go.RowKit

theorem own : ownKnob Try.prog.godebug = none := by kernel_rfl
theorem laidOut : laidOutB Try.prog = true := by kernel_rfl

def ints9 : List Leaf := [.int .i64, .int .i64, .int .i64, .int .i64, .int .i64, .int .i64, .int .i64, .int .i64, .int .i64]

theorem deed_flat : flatK Try.prog 5 32 = some ints9 := by kernel_rfl

theorem i64_le {n : Int} (h : (Lit.int .i64 n).wf = true) : n ≤ 9223372036854775807 := by
  simp only [Lit.wf, Bool.and_eq_true, decide_eq_true_eq] at h
  exact h.2

/-- The deeds that the slice holds, as numbers. -/
theorem deeds_of {w : World} {A : Option Addr} {len : Nat} (h : FlatSl w A len ints9) : ∃ D : Nat → Nat → Int, DeedSl8 w A len D := by
  rcases h with h0 | ⟨b, o, rfl, hb, hc⟩
  · exact ⟨fun _ _ => 0, .inl h0⟩
  · refine ⟨fun i j => match w.cell? ⟨b, o + (i * 9 + j), none⟩ with | some (.int _ n) => n | _ => 0, .inr ⟨b, o, rfl, hb, fun i hi j hj => ?_⟩⟩
    obtain ⟨v, hv, n, hn, hwf⟩ := hc i hi j (.int .i64) (by
      rcases (by omega : j = 0 ∨ j = 1 ∨ j = 2 ∨ j = 3 ∨ j = 4 ∨ j = 5 ∨ j = 6 ∨ j = 7 ∨ j = 8) with rfl | rfl | rfl | rfl | rfl | rfl | rfl | rfl | rfl <;> rfl)
    have hv' : w.cell? ⟨b, o + (i * 9 + j), none⟩ = some (.int .i64 n) := by rw [← hn]; exact hv
    rw [hv']
    simp only [hv']
    exact ⟨trivial, i64_le hwf⟩

set_option maxRecDepth 100000 in
theorem lifted (os : Os) (started : os.Started) (H : Type) (enc : TypeId × Value → H) :
    ReturnsInHanded {} Try.checked os 3 .any (Rows.capsPlaysSpec.pre6 enc Try.prog Try.f3 Rows.capsPlaysRow.domain false) (Rows.capsPlaysSpec.post enc Try.prog Try.f3 false true false false) := by
  refine returnsInHanded_of_change (C := Try.checked) own started (by kernel_rfl) Try.func3
    (ChangeSpec.witness6 (enc := enc) (C := Try.checked) false ⟨#[], #[.slice none 0 0], []⟩ 8 (by kernel_rfl) (by kernel_rfl) (by kernel_rfl) (by kernel_rfl)) ?_
  intro W base args ds gs before hval0 hW hcnd _
  have hval : ∀ (j : Nat) t v, Try.f3.params[j]? = some t → args[j]? = some v → Value.okWide Try.prog W .any base t v := hval0
  have hW' := hW
  obtain ⟨p, q, hA0, hV, rfl, hfz, hnd⟩ := hW
  have hA : DataW.TrodAll enc Try.prog W 0 (fun _ => true) true Try.f3.params.toList args.toList ds p := hA0
  rw [Try.params3] at hA hval
  obtain ⟨v0, vs0, d0, ds0, p0, q0, hargs, rfl, rfl, h0, r0⟩ := trodAll_cons hA
  obtain ⟨rfl, rfl, rfl⟩ := trodAll_nil r0
  obtain rfl : args = #[v0] := by cases args; simp_all
  obtain ⟨rfl, rfl⟩ := trodVars_none hV
  have k0 := h0
  have lt0 : ∀ x ∈ p0, x.block < W.heap.size := by obtain ⟨m, hm⟩ := k0; exact DataW.trod_lt m _ _ _ hm
  obtain ⟨a0, len0, cap0, rfl⟩ := okWide_slice Try.underlying22 (hval 0 22 v0 rfl rfl)
  obtain ⟨hfl, hmax⟩ := open_flat_slice Try.underlying22 deed_flat (by kernel_rfl) (by decide) h0
  obtain ⟨D, hD⟩ := deeds_of hfl
  clear hA0 hval0
  refine (plays_walk a0 len0 cap0 D W hD hmax).mono fun e W' ⟨he, bel⟩ => ?_
  subst he
  exact ⟨_, rfl, _, _, _, [], _, [], hW', trodAll_mk1 (shut_bool Try.underlying4 _), (trodAll_cons_mk (Below.trod laidOut (by kernel_rfl) (of_decide_eq_true (by kernel_rfl)) k0 bel lt0) trodAll_mk0), rfl, bel.frame _, fun h => by cases h⟩

theorem over : Rows.capsPlaysRow.holds Try.pinned (OpenSpec.ofChange Rows.capsPlaysSpec) :=
  OpenClaim.holds_of_wide 3 Try.f3 rfl rfl rfl rfl rfl rfl rfl ⟨rfl, rfl, rfl, rfl, rfl⟩ rfl rfl rfl rfl rfl (by kernel_rfl) Try.func3 (by kernel_rfl)
    (of_decide_eq_true (by kernel_rfl)) (by unfold Func.isWrapper; first | (rw [if_pos (by decide +kernel)]; kernel_rfl) | (rw [if_neg (by decide +kernel)]; exact ⟨rfl, rfl⟩))
    (fun os started H enc _ => lifted os started H enc)

end Go.Proofs.Ytpclhecpfjkehaa.capsPlays
namespace Go.Proofs.Ytpclhecpfjkehaa

theorem CapsPlays_holds : Rows.CapsPlaysSaid := capsPlays.over
#print axioms CapsPlays_holds

end Go.Proofs.Ytpclhecpfjkehaa
