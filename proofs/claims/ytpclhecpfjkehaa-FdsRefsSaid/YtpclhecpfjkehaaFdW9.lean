/- slices.Equal and janusref01.Words at words. -/
import Derived.Test.YtpclhecpfjkehaaProg
import Derived.Test.YtpclhecpfjkehaaInts
namespace Go.Proofs.Ytpclhecpfjkehaa
open Go.RowKit

set_option maxRecDepth 100000 in
theorem equal_u (w : World) (v u : Value) (xs ys : List Int) (hv : Rd w v (xs.map (Value.int .u64))) (hu : Rd w u (ys.map (Value.int .u64))) (hx : xs.length ≤ 9223372036854775807) :
    Calls Try.prog 65 #[v, u] w fun y w' => y = .returned (.bool (eqInts xs ys)) ∧ Same w' w := by
  obtain ⟨A, c, rfl, hA⟩ := hv
  obtain ⟨B, d, rfl, hB⟩ := hu
  simp only [List.length_map] at hA hB ⊢
  by_cases hl : xs.length = ys.length
  · have hA' : ∀ k x, xs[k]? = some x → ∃ g o, A = some ⟨g, o, none⟩ ∧ w.cell? ⟨g, o + k, none⟩ = some (.int .u64 x) := by
      intro k x hk
      have := (List.getElem?_eq_some_iff.1 hk).1
      obtain ⟨g, o, h1, _, h2⟩ := hA (by omega)
      exact ⟨g, o, h1, h2 k _ (by simp [hk])⟩
    have hB' : ∀ k x, ys[k]? = some x → ∃ g o, B = some ⟨g, o, none⟩ ∧ w.cell? ⟨g, o + k, none⟩ = some (.int .u64 x) := by
      intro k x hk
      have := (List.getElem?_eq_some_iff.1 hk).1
      obtain ⟨g, o, h1, _, h2⟩ := hB (by omega)
      exact ⟨g, o, h1, h2 k _ (by simp [hk])⟩
    rw [← hl]
    clear hA hB
    have HL := Lib.hid hl
    clear hl
    have hne : ((xs.length : Int) != (xs.length : Int)) = false := by simp
    go_enter Try.func65, Try.ntmps65
    go_wp2
    go_loopw [13] (fun t wr => ∃ k : Nat, k ≤ xs.length ∧ t = .int .i64 k ∧ Same wr w ∧ ∀ j, j < k → xs[j]? = ys[j]?) (fun t _ => xs.length - (intOf t).toNat)
    case atStart => exact ⟨0, by omega, rfl, Same.refl _, fun j hj => by omega⟩
    case round =>
      obtain ⟨k, hk, rfl, hS, heq⟩ := hrel
      by_cases hlt : k < xs.length
      · have hlt2 : k < ys.length := by rw [← HL.out]; exact hlt
        obtain ⟨g, o, rfl, hc1⟩ := hA' k _ (List.getElem?_eq_getElem hlt)
        obtain ⟨g2, o2, rfl, hc2⟩ := hB' k _ (List.getElem?_eq_getElem hlt2)
        obtain ⟨x, hx1⟩ : ∃ x, x = xs[k] := ⟨_, rfl⟩
        obtain ⟨z, hz1⟩ : ∃ z, z = ys[k] := ⟨_, rfl⟩
        rw [← hx1, hS.cell] at hc1
        rw [← hz1, hS.cell] at hc2
        have hil : (k : Int) < (xs.length : Int) := by omega
        have HX := Lib.hid hx1
        have HZ := Lib.hid hz1
        have HQ := Lib.hid heq
        have HS := Lib.hid hS
        clear hA' hB' hx1 hz1 heq hS
        by_cases hxz : x = z
        · subst hxz
          have hb : (x == x) = true := by simp
          have hb2 : (x != x) = false := by simp
          go_wp2
          go_quiet (fail)
          go_wp2
          go_roundw
          case rel =>
            refine ⟨k + 1, by omega, by go_num, (Same.drewN _ _).trans HS.out, fun j hj => ?_⟩
            by_cases hjk : j = k
            · subst hjk
              rw [List.getElem?_eq_getElem hlt, List.getElem?_eq_getElem hlt2, ← HX.out, ← HZ.out]
            · exact HQ.out j (by omega)
          case measure => simp [intOf]; omega
        · have hb2 : (x != z) = true := by simp [hxz]
          go_wp2
          go_quiet (fail)
          go_wp2
          go_ret
          refine ⟨ret_bool ?_, (Same.drewN _ _).trans HS.out⟩
          unfold eqInts
          symm
          rw [decide_eq_false_iff_not]
          intro h
          subst h
          exact hxz (HX.out.trans HZ.out.symm)
      · have hkn : k = xs.length := by omega
        subst hkn
        have HQ := Lib.hid heq
        clear hA' hB' heq
        go_wp2
        go_ret
        refine ⟨ret_bool ?_, hS⟩
        unfold eqInts
        symm
        rw [decide_eq_true_iff]
        apply List.ext_getElem?
        intro j
        by_cases hj : j < xs.length
        · exact HQ.out j hj
        · rw [List.getElem?_eq_none (by omega), List.getElem?_eq_none (by rw [← HL.out]; omega)]
  · have hne : ((xs.length : Int) != (ys.length : Int)) = true := by simp; omega
    have hne2 : ((xs.length : Int) == (ys.length : Int)) = false := by simp; omega
    have HL := Lib.hid hl
    clear hl hA hB
    go_enter Try.func65, Try.ntmps65
    go_wp2
    go_ret
    refine ⟨ret_bool ?_, Same.refl _⟩
    unfold eqInts
    symm
    rw [decide_eq_false_iff_not]
    intro h
    subst h
    exact HL.out rfl

end Go.Proofs.Ytpclhecpfjkehaa
