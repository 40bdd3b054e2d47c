/- janusref08: Drop, Gone; janusref01.Has. -/
import Derived.Test.YtpclhecpfjkehaaRefW9
import Derived.Test.YtpclhecpfjkehaaRefD2
namespace Go.Proofs.Ytpclhecpfjkehaa
open Go.RowKit

theorem rdrop {w : World} {x : Nat} {M : CM} {F : Nat → Prop} (h : RCaps w x M F) (e s : Int) :
    Calls Try.prog 50 #[.pointer (some ⟨x, 0, none⟩), .int .i64 e, .int .i64 s] w fun y w' =>
      y = .returned (.tuple #[.bool (M.drop e s).1.1, .int .i64 (M.drop e s).1.2]) ∧ Mod F w w' ∧ RCaps w' x (M.drop e s).2 (New F w w') := by
  cases hf : findE M.L e s with
  | none =>
    have hM : M.drop e s = ((false, 104), M) := by unfold CM.drop; rw [hf]
    rw [hM]
    refine (rdrop_none h e s hf).mono ?_
    rintro y w' ⟨rfl, rfl⟩
    exact ⟨rfl, Mod.refl _ _, h.new (Below.refl _ _)⟩
  | some d =>
    have hM : (M.drop e s).1 = (dropLast M.L d, 0) := by unfold CM.drop; rw [hf]
    rw [hM]
    exact rdrop_some h e s d hf

theorem rgone {w : World} {x : Nat} {M : CM} {F : Nat → Prop} (h : RCaps w x M F) (e : Int) :
    Calls Try.prog 54 #[.pointer (some ⟨x, 0, none⟩), .int .i64 e] w fun y w' =>
      y = .returned (.tuple #[]) ∧ Mod F w w' ∧ RCaps w' x (M.gone e) (New F w w') := by
  go_enter Try.func54, Try.ntmps54
  go_wp2
  go_loopw [4] (fun t wr => ∃ k : Nat, k ≤ 64 ∧ t = .int .i64 ((k : Int) + 1) ∧ Mod F w wr ∧ RCaps wr x (M.goneTo e k) (New F w wr)) (fun t _ => 66 - (intOf t).toNat)
  case atStart => exact ⟨0, by omega, rfl, Mod.refl _ _, h.new (Below.refl _ _)⟩
  case round =>
    obtain ⟨k, hk, rfl, hm, hc⟩ := hrel
    by_cases hlt : k < 64
    · have hd := rdrop hc e ((k : Int) + 1)
      go_wp2_with fail
      refine hd.mono ?_
      rintro y w1 ⟨rfl, hm1, hc1⟩
      have hm2 : Mod F w w1 := hm.trans hm1 (fun i hi hn => hn.elim id (fun h => by omega))
      have hc2 : RCaps w1 x (M.goneTo e (k + 1)) (New F w w1) := RCaps.more hc1 (fun j hj => by
        rcases hj with hj | ⟨h1, h2⟩
        · rcases hj with hj | ⟨h1, h2⟩
          · exact .inl hj
          · exact .inr ⟨h1, by have := hm1.size; omega⟩
        · exact .inr ⟨by have := hm.size; omega, h2⟩) (fun j hj => New.lt h.lt hm2.size j hj)
      clear hd hm hc hm1 hc1
      go_wp2
      go_roundw
      case rel => exact ⟨k + 1, by omega, by go_num, hm2, hc2⟩
      case measure => simp [intOf]; omega
    · have hk64 : k = 64 := by omega
      subst hk64
      go_wp2
      go_end0
      exact ⟨rfl, hm, hc⟩

/-- Is a number among some? -/
theorem rhas01 (w : World) (v : Value) (xs : List Int) (n : Int) (hv : Rd w v (rowV xs)) (hx : xs.length ≤ 9223372036854775807) :
    Calls Try.prog 88 #[v, .int .i64 n] w fun y w' => y = .returned (.bool (hasL xs n)) ∧ w = w' := by
  obtain ⟨A, c, rfl, hA⟩ := hv
  rw [rowV_len] at hA ⊢
  have hA' : ∀ k x, xs[k]? = some x → ∃ g o, A = some ⟨g, o, none⟩ ∧ w.cell? ⟨g, o + k, none⟩ = some (.int .i64 x) := by
    intro k x hk
    have := (List.getElem?_eq_some_iff.1 hk).1
    obtain ⟨g, o, h1, _, h2⟩ := hA (by omega)
    exact ⟨g, o, h1, h2 k _ (by simp [rowV, hk])⟩
  clear hA
  go_enter Try.func88, Try.ntmps88
  go_wp2
  go_loop [5] (fun t => ∃ k : Nat, k ≤ xs.length ∧ t = .int .i64 k ∧ n ∉ xs.take k) (fun t => xs.length - (intOf t).toNat)
  case atStart => exact ⟨0, by omega, rfl, by simp⟩
  case round =>
    obtain ⟨k, hk, rfl, hno⟩ := hrel
    by_cases hlt : k < xs.length
    · obtain ⟨y, hy⟩ : ∃ y, y = xs[k] := ⟨_, rfl⟩
      have hyk : xs[k]? = some y := by rw [hy]; exact List.getElem?_eq_getElem hlt
      obtain ⟨g, o, rfl, hc⟩ := hA' k y hyk
      have htk : xs.take (k + 1) = xs.take k ++ [y] := by rw [List.take_add_one, hyk]; rfl
      have hmem : y ∈ xs := List.mem_of_getElem? hyk
      have HM := Lib.hid hmem
      have HT := Lib.hid htk
      have HN := Lib.hid hno
      clear hA' hy hyk htk hno hmem
      by_cases hm : y = n
      · subst hm
        go_wp2
        go_ret
        exact ⟨ret_bool ((hasL_true.2 HM.out).symm), rfl⟩
      · go_wp2
        go_round
        case rel =>
          refine ⟨k + 1, by omega, by go_num, ?_⟩
          rw [HT.out, List.mem_append, List.mem_singleton]
          rintro (h1 | h1)
          · exact HN.out h1
          · exact hm h1.symm
        case measure => simp [intOf]; omega
    · have hkn : k = xs.length := by omega
      subst hkn
      rw [List.take_length] at hno
      have HN := Lib.hid hno
      clear hA' hno
      go_wp2
      go_ret
      refine ⟨ret_bool ?_, rfl⟩
      exact (hasL_false.2 HN.out).symm

end Go.Proofs.Ytpclhecpfjkehaa
