/- Proved: for every list of deeds the law FdsRefs answers true: the count that a file tells is how many descriptors name it, and what is free is what names no file (the row FdsRefsSaid; no condition). -/
import Derived.Test.YtpclhecpfjkehaaRows
import Derived.Test.YtpclhecpfjkehaaFdRefW
import Derived.Test.YtpclhecpfjkehaaOpen
import Derived.WalkKit
import Derived.ProofKit
import Derived.OpenShut
import Derived.ChangeOld
import Derived.Below
namespace Go.Proofs.Ytpclhecpfjkehaa.fdsRefs
open Go.ChangeShapes Go.WideShapes Go.ChangeAt Go.RowKit

theorem own : ownKnob Try.prog.godebug = none := by kernel_rfl
theorem laidOut : laidOutB Try.prog = true := by kernel_rfl

def leaves9 : List Leaf := [.int .i64, .int .i64, .int .i64, .int .i64, .int .i64, .int .i64, .int .i64, .bool, .int .i64]

theorem deed_flat : flatK Try.prog 5 58 = some leaves9 := by kernel_rfl

/-- The deeds that the slice holds: numbers and a bool. -/
theorem deeds_of {w : World} {A : Option Addr} {len : Nat} (h : FlatSl w A len leaves9) : ∃ (D : Nat → Nat → Int) (B : Nat → Bool), DeedSlF w A len D B := by
  rcases h with h0 | ⟨b, o, rfl, hb, hc⟩
  · exact ⟨fun _ _ => 0, fun _ => false, .inl h0⟩
  · refine ⟨fun i j => match w.cell? ⟨b, o + (i * 9 + j), none⟩ with | some (.int _ n) => n | _ => 0, fun i => match w.cell? ⟨b, o + (i * 9 + 7), none⟩ with | some (.bool x) => x | _ => false, .inr ⟨b, o, rfl, hb, fun i hi => ⟨fun j hj hj7 => ?_, ?_⟩⟩⟩
    · obtain ⟨v, hv, n, hn, hwf⟩ := hc i hi j (.int .i64) (by
        rcases (by omega : j = 0 ∨ j = 1 ∨ j = 2 ∨ j = 3 ∨ j = 4 ∨ j = 5 ∨ j = 6 ∨ j = 8) with rfl | rfl | rfl | rfl | rfl | rfl | rfl | rfl <;> rfl)
      have hv' : w.cell? ⟨b, o + (i * 9 + j), none⟩ = some (.int .i64 n) := by rw [← hn]; exact hv
      simp only [hv']
    · obtain ⟨v, hv, x, hx⟩ := hc i hi 7 .bool rfl
      have hv' : w.cell? ⟨b, o + (i * 9 + 7), none⟩ = some (.bool x) := by rw [← hx]; exact hv
      simp only [hv']

set_option maxRecDepth 100000 in
theorem lifted (os : Os) (started : os.Started) (H : Type) (enc : TypeId × Value → H) :
    ReturnsInHanded {} Try.checked os 5 .any (Rows.fdsRefsSpec.pre6 enc Try.prog Try.f5 Rows.fdsRefsRow.domain false) (Rows.fdsRefsSpec.post enc Try.prog Try.f5 false true false false) := by
  refine returnsInHanded_of_change (C := Try.checked) own started (by kernel_rfl) Try.func5
    (ChangeSpec.witness6 (enc := enc) (C := Try.checked) false ⟨#[], #[.slice none 0 0], []⟩ 8 (by kernel_rfl) (by kernel_rfl) (by kernel_rfl) (by kernel_rfl)) ?_
  intro W base args ds gs before hval0 hW hcnd _
  have hval : ∀ (j : Nat) t v, Try.f5.params[j]? = some t → args[j]? = some v → Value.okWide Try.prog W .any base t v := hval0
  have hW' := hW
  obtain ⟨p, q, hA0, hV, rfl, hfz, hnd⟩ := hW
  have hA : DataW.TrodAll enc Try.prog W 0 (fun _ => true) true Try.f5.params.toList args.toList ds p := hA0
  rw [Try.params5] at hA hval
  obtain ⟨v0, vs0, d0, ds0, p0, q0, hargs, rfl, rfl, h0, r0⟩ := trodAll_cons hA
  obtain ⟨rfl, rfl, rfl⟩ := trodAll_nil r0
  obtain rfl : args = #[v0] := by cases args; simp_all
  obtain ⟨rfl, rfl⟩ := trodVars_none hV
  have k0 := h0
  have lt0 : ∀ x ∈ p0, x.block < W.heap.size := by obtain ⟨m, hm⟩ := k0; exact DataW.trod_lt m _ _ _ hm
  obtain ⟨a0, len0, cap0, rfl⟩ := okWide_slice Try.underlying53 (hval 0 53 v0 rfl rfl)
  obtain ⟨hfl, hmax⟩ := open_flat_slice Try.underlying53 deed_flat (by kernel_rfl) (by decide) h0
  obtain ⟨D, B, hD⟩ := deeds_of hfl
  clear hA0 hval0
  refine (refs_walk a0 len0 cap0 D B W hD hmax).mono fun e W' ⟨he, bel⟩ => ?_
  subst he
  exact ⟨_, rfl, _, _, _, [], _, [], hW', trodAll_mk1 (shut_bool Try.underlying4 _), (trodAll_cons_mk (Below.trod laidOut (by kernel_rfl) (of_decide_eq_true (by kernel_rfl)) k0 bel lt0) trodAll_mk0), rfl, bel.frame _, fun h => by cases h⟩

theorem over : Rows.fdsRefsRow.holds Try.pinned (OpenSpec.ofChange Rows.fdsRefsSpec) :=
  OpenClaim.holds_of_wide 5 Try.f5 rfl rfl rfl rfl rfl rfl rfl ⟨rfl, rfl, rfl, rfl, rfl⟩ rfl rfl rfl rfl rfl (by kernel_rfl) Try.func5 (by kernel_rfl)
    (of_decide_eq_true (by kernel_rfl)) (by unfold Func.isWrapper; first | (rw [if_pos (by decide +kernel)]; kernel_rfl) | (rw [if_neg (by decide +kernel)]; exact ⟨rfl, rfl⟩))
    (fun os started H enc _ => lifted os started H enc)

end Go.Proofs.Ytpclhecpfjkehaa.fdsRefs
namespace Go.Proofs.Ytpclhecpfjkehaa

theorem FdsRefs_holds : Rows.FdsRefsSaid := fdsRefs.over
#print axioms FdsRefs_holds

end Go.Proofs.Ytpclhecpfjkehaa
