/- janusref01.Ints: are two slices of numbers the same? -/
import Derived.Test.YtpclhecpfjkehaaProg
import Derived.Test.YtpclhecpfjkehaaArr
import Derived.WalkLawsBesides
import Derived.Outline
import Derived.Deep.QuietTactic
import Derived.BigQuiet
import Derived.Deep.AppendLies
import Derived.RegionTactic
import Derived.Lib.Hide
namespace Go.Proofs.Ytpclhecpfjkehaa
open Go.RowKit

/-- The slice value v reads as the values xs (nil too). -/
def Rd (w : World) (v : Value) (xs : List Value) : Prop :=
  ∃ A c, v = .slice A xs.length c ∧ (0 < xs.length → ∃ g o, A = some ⟨g, o, none⟩ ∧ g < w.heap.size ∧ ∀ j u, xs[j]? = some u → w.cell? ⟨g, o + j, none⟩ = some u)

theorem Rd.nil (w : World) : Rd w (.slice none 0 0) [] := ⟨none, 0, rfl, fun h => absurd h (by simp)⟩

theorem Rd.of_own {w : World} {base : Nat} {e : TypeId} {v : Value} {n : Nat} {xs : List Value} (h : w.ownsRow base e 1 v n xs) : Rd w v xs := by
  have hl : xs.length = n := by have := h.1; omega
  subst hl
  by_cases h0 : 0 < xs.length
  · obtain ⟨g, cap, rfl, h1, h2⟩ := h.form h0
    refine ⟨_, _, rfl, fun _ => ⟨g, 0, rfl, h2, fun j u hu => ?_⟩⟩
    have := h.cells (g := g) rfl j u hu
    rw [add_mk] at this
    exact this
  · rcases h.2 with ⟨hv, h1⟩ | ⟨g, cap, cur, hv, _⟩
    · exact ⟨none, 0, by rw [hv, h1], fun h => absurd h h0⟩
    · exact ⟨_, _, hv, fun h => absurd h h0⟩

theorem Rd.keep {w w' : World} {v : Value} {xs : List Value} (h : Rd w v xs) (hs : w.heap.size ≤ w'.heap.size) (hk : ∀ g A n c, v = .slice (some ⟨g, A, none⟩) n c → g < w.heap.size → w'.heap[g]? = w.heap[g]?) : Rd w' v xs := by
  obtain ⟨A, c, rfl, h1⟩ := h
  refine ⟨A, c, rfl, fun h0 => ?_⟩
  obtain ⟨g, o, rfl, h2, h3⟩ := h1 h0
  refine ⟨g, o, rfl, by omega, fun j u hu => ?_⟩
  rw [World.cell?_of_block (w := w) (hk g o _ _ rfl h2)]
  exact h3 j u hu

theorem Rd.below {w w' : World} {v : Value} {xs : List Value} (h : Rd w v xs) (hb : Below w.heap.size w w') : Rd w' v xs :=
  h.keep hb.size fun g _ _ _ _ hg => hb.block g hg

theorem Rd.same {w w' : World} {v : Value} {xs : List Value} (h : Rd w v xs) (hs : Same w' w) : Rd w' v xs :=
  h.keep (by rw [hs.1]; exact Nat.le_refl _) fun g _ _ _ _ _ => by rw [hs.1]

def eqInts (xs ys : List Int) : Bool := decide (xs = ys)

set_option maxRecDepth 100000 in
theorem ints_any (w : World) (v u : Value) (xs ys : List Int) (hv : Rd w v (xs.map (Value.int .i64))) (hu : Rd w u (ys.map (Value.int .i64))) (hx : xs.length ≤ 9223372036854775807) :
    Calls Try.prog 13 #[v, u] w fun y w' => y = .returned (.bool (eqInts xs ys)) ∧ Same w' w := by
  obtain ⟨A, c, rfl, hA⟩ := hv
  obtain ⟨B, d, rfl, hB⟩ := hu
  simp only [List.length_map] at hA hB ⊢
  by_cases hl : xs.length = ys.length
  · have hA' : ∀ k x, xs[k]? = some x → ∃ g o, A = some ⟨g, o, none⟩ ∧ w.cell? ⟨g, o + k, none⟩ = some (.int .i64 x) := by
      intro k x hk
      have := (List.getElem?_eq_some_iff.1 hk).1
      obtain ⟨g, o, h1, _, h2⟩ := hA (by omega)
      exact ⟨g, o, h1, h2 k _ (by simp [hk])⟩
    have hB' : ∀ k x, ys[k]? = some x → ∃ g o, B = some ⟨g, o, none⟩ ∧ w.cell? ⟨g, o + k, none⟩ = some (.int .i64 x) := by
      intro k x hk
      have := (List.getElem?_eq_some_iff.1 hk).1
      obtain ⟨g, o, h1, _, h2⟩ := hB (by omega)
      exact ⟨g, o, h1, h2 k _ (by simp [hk])⟩
    rw [← hl]
    clear hA hB
    have HL := Lib.hid hl
    clear hl
    go_enter Try.func13, Try.ntmps13
    go_wp2
    go_loopw [5] (fun t wr => ∃ k : Nat, k ≤ xs.length ∧ t = .int .i64 k ∧ Same wr w ∧ ∀ j, j < k → xs[j]? = ys[j]?) (fun t _ => xs.length - (intOf t).toNat)
    case atStart => exact ⟨0, by omega, rfl, Same.refl _, fun j hj => by omega⟩
    case round =>
      obtain ⟨k, hk, rfl, hS, heq⟩ := hrel
      by_cases hlt : k < xs.length
      · have hlt2 : k < ys.length := by rw [← HL.out]; exact hlt
        obtain ⟨g, o, rfl, hc1⟩ := hA' k _ (List.getElem?_eq_getElem hlt)
        obtain ⟨g2, o2, rfl, hc2⟩ := hB' k _ (List.getElem?_eq_getElem hlt2)
        obtain ⟨x, hx1⟩ : ∃ x, x = xs[k] := ⟨_, rfl⟩
        obtain ⟨z, hz1⟩ : ∃ z, z = ys[k] := ⟨_, rfl⟩
        rw [← hx1, hS.cell] at hc1
        rw [← hz1, hS.cell] at hc2
        have hil : (k : Int) < (xs.length : Int) := by omega
        have HX := Lib.hid hx1
        have HZ := Lib.hid hz1
        have HQ := Lib.hid heq
        have HS := Lib.hid hS
        clear hA' hB' hx1 hz1 heq hS
        by_cases hxz : x = z
        · subst hxz
          have hb : (x == x) = true := by simp
          have hb2 : (x != x) = false := by simp
          go_wp2
          go_quiet (fail)
          go_wp2
          go_roundw
          case rel =>
            refine ⟨k + 1, by omega, by go_num, (Same.drewN _ _).trans HS.out, fun j hj => ?_⟩
            by_cases hjk : j = k
            · subst hjk
              rw [List.getElem?_eq_getElem hlt, List.getElem?_eq_getElem hlt2, ← HX.out, ← HZ.out]
            · exact HQ.out j (by omega)
          case measure => simp [intOf]; omega
        · have hb2 : (x != z) = true := by simp [hxz]
          go_wp2
          go_quiet (fail)
          go_wp2
          go_ret
          refine ⟨ret_bool ?_, (Same.drewN _ _).trans HS.out⟩
          unfold eqInts
          symm
          rw [decide_eq_false_iff_not]
          intro h
          subst h
          exact hxz (HX.out.trans HZ.out.symm)
      · have hkn : k = xs.length := by omega
        subst hkn
        have HQ := Lib.hid heq
        clear hA' hB' heq
        go_wp2
        go_ret
        refine ⟨ret_bool ?_, hS⟩
        unfold eqInts
        symm
        rw [decide_eq_true_iff]
        apply List.ext_getElem?
        intro j
        by_cases hj : j < xs.length
        · exact HQ.out j hj
        · rw [List.getElem?_eq_none (by omega), List.getElem?_eq_none (by rw [← HL.out]; omega)]
  · have hne : ((xs.length : Int) != (ys.length : Int)) = true := by simp; omega
    have hne2 : ((xs.length : Int) == (ys.length : Int)) = false := by simp; omega
    have HL := Lib.hid hl
    clear hl hA hB
    go_enter Try.func13, Try.ntmps13
    go_wp2
    go_ret
    refine ⟨ret_bool ?_, Same.refl _⟩
    unfold eqInts
    symm
    rw [decide_eq_false_iff_not]
    intro h
    subst h
    exact HL.out rfl

end Go.Proofs.Ytpclhecpfjkehaa
