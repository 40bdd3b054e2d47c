/- Proved: for every deed the law FdsNone answers true: descriptors that are none answer the error to everything, and nobody has anything of them (the row FdsNoneSaid; no condition). -/
import Derived.Test.YtpclhecpfjkehaaRows
import Derived.Test.YtpclhecpfjkehaaFdNil
import Derived.Test.YtpclhecpfjkehaaOpen
import Derived.WalkKit
import Derived.ProofKit
import Derived.OpenShut
import Derived.ChangeOld
import Derived.Below
namespace Go.Proofs.Ytpclhecpfjkehaa.fdsNone
open Go.ChangeShapes Go.WideShapes Go.ChangeAt Go.RowKit

theorem own : ownKnob Try.prog.godebug = none := by kernel_rfl
theorem laidOut : laidOutB Try.prog = true := by kernel_rfl

def leaves9 : List Leaf := [.int .i64, .int .i64, .int .i64, .int .i64, .int .i64, .int .i64, .int .i64, .bool, .int .i64]

theorem deed_flat : flatK Try.prog 5 58 = some leaves9 := by kernel_rfl

theorem of9 {cs : Array Value} (hsz : cs.size = 9) (h : ∀ (i : Nat) (k : Leaf), leaves9[i]? = some k → ∃ u, cs[i]? = some u ∧ k.is u) :
    ∃ (k e s t r a b : Int) (c : Bool) (d : Int), cs = #[.int .i64 k, .int .i64 e, .int .i64 s, .int .i64 t, .int .i64 r, .int .i64 a, .int .i64 b, .bool c, .int .i64 d] := by
  obtain ⟨l⟩ := cs
  match l, hsz with
  | [a0, a1, a2, a3, a4, a5, a6, a7, a8], _ =>
    have g : ∀ (i : Nat) (v : Value), leaves9[i]? = some (.int .i64) → [a0, a1, a2, a3, a4, a5, a6, a7, a8][i]? = some v → ∃ n : Int, v = .int .i64 n := by
      intro i v hi hv
      obtain ⟨u, hu, n, hn, _⟩ := h i (.int .i64) hi
      rw [List.getElem?_toArray, hv] at hu
      injection hu with hu
      exact ⟨n, by rw [hu]; exact hn⟩
    obtain ⟨n0, rfl⟩ := g 0 a0 rfl rfl
    obtain ⟨n1, rfl⟩ := g 1 a1 rfl rfl
    obtain ⟨n2, rfl⟩ := g 2 a2 rfl rfl
    obtain ⟨n3, rfl⟩ := g 3 a3 rfl rfl
    obtain ⟨n4, rfl⟩ := g 4 a4 rfl rfl
    obtain ⟨n5, rfl⟩ := g 5 a5 rfl rfl
    obtain ⟨n6, rfl⟩ := g 6 a6 rfl rfl
    obtain ⟨u, hu, n7, h7⟩ := h 7 .bool rfl
    have hu' : some a7 = some u := hu
    injection hu' with hu'
    rw [← hu'] at h7
    subst h7
    obtain ⟨n8, rfl⟩ := g 8 a8 rfl rfl
    exact ⟨n0, n1, n2, n3, n4, n5, n6, n7, n8, rfl⟩

set_option maxRecDepth 100000 in
theorem lifted (os : Os) (started : os.Started) (H : Type) (enc : TypeId × Value → H) :
    ReturnsInHanded {} Try.checked os 8 .any (Rows.fdsNoneSpec.pre6 enc Try.prog Try.f8 Rows.fdsNoneRow.domain false) (Rows.fdsNoneSpec.post enc Try.prog Try.f8 false true false false) := by
  refine returnsInHanded_of_change (C := Try.checked) own started (by kernel_rfl) Try.func8
    (ChangeSpec.witness6 (enc := enc) (C := Try.checked) false ⟨#[], #[.agg #[.int .i64 0, .int .i64 0, .int .i64 0, .int .i64 0, .int .i64 0, .int .i64 0, .int .i64 0, .bool false, .int .i64 0]], []⟩ 8 (by kernel_rfl) (by kernel_rfl) (by kernel_rfl) (by kernel_rfl)) ?_
  intro W base args ds gs before hval0 hW hcnd _
  have hval : ∀ (j : Nat) t v, Try.f8.params[j]? = some t → args[j]? = some v → Value.okWide Try.prog W .any base t v := hval0
  have hW' := hW
  obtain ⟨p, q, hA0, hV, rfl, hfz, hnd⟩ := hW
  have hA : DataW.TrodAll enc Try.prog W 0 (fun _ => true) true Try.f8.params.toList args.toList ds p := hA0
  rw [Try.params8] at hA hval
  obtain ⟨v0, vs0, d0, ds0, p0, q0, hargs, rfl, rfl, h0, r0⟩ := trodAll_cons hA
  obtain ⟨rfl, rfl, rfl⟩ := trodAll_nil r0
  obtain rfl : args = #[v0] := by cases args; simp_all
  obtain ⟨rfl, rfl⟩ := trodVars_none hV
  have k0 := h0
  have lt0 : ∀ x ∈ p0, x.block < W.heap.size := by obtain ⟨m, hm⟩ := k0; exact DataW.trod_lt m _ _ _ hm
  obtain ⟨cs, rfl, hsz, hcs⟩ := open_flat Try.underlying58 deed_flat (by kernel_rfl) (hval 0 58 v0 rfl rfl) h0
  obtain ⟨k, e, s, t, r, a, b, c, d, rfl⟩ := of9 hsz hcs
  clear hA0 hval0
  refine (fnone_walk k e s t r a b c d W).mono fun e W' ⟨he, bel⟩ => ?_
  subst he
  exact ⟨_, rfl, _, _, _, [], _, [], hW', trodAll_mk1 (shut_bool Try.underlying4 _), (trodAll_cons_mk (Below.trod laidOut (by kernel_rfl) (of_decide_eq_true (by kernel_rfl)) k0 bel lt0) trodAll_mk0), rfl, bel.frame _, fun h => by cases h⟩

theorem over : Rows.fdsNoneRow.holds Try.pinned (OpenSpec.ofChange Rows.fdsNoneSpec) :=
  OpenClaim.holds_of_wide 8 Try.f8 rfl rfl rfl rfl rfl rfl rfl ⟨rfl, rfl, rfl, rfl, rfl⟩ rfl rfl rfl rfl rfl (by kernel_rfl) Try.func8 (by kernel_rfl)
    (of_decide_eq_true (by kernel_rfl)) (by unfold Func.isWrapper; first | (rw [if_pos (by decide +kernel)]; kernel_rfl) | (rw [if_neg (by decide +kernel)]; exact ⟨rfl, rfl⟩))
    (fun os started H enc _ => lifted os started H enc)

end Go.Proofs.Ytpclhecpfjkehaa.fdsNone
namespace Go.Proofs.Ytpclhecpfjkehaa

theorem FdsNone_holds : Rows.FdsNoneSaid := fdsNone.over
#print axioms FdsNone_holds

end Go.Proofs.Ytpclhecpfjkehaa
