/- Law CapsRevokes: the walk. -/
import Derived.Test.YtmhnnfcbpnofhaaCapsL0
import Derived.Test.YtmhnnfcbpnofhaaCapsRevM
import Derived.Test.YtmhnnfcbpnofhaaOpen
namespace Go.Proofs.Ytmhnnfcbpnofhaa
open Go.RowKit

/-- What a slice of deeds holds: nine numbers each. -/
def DeedSl (w : World) (A : Option Addr) (len : Nat) (D : Nat → Nat → Int) : Prop :=
  len = 0 ∨ ∃ b o, A = some ⟨b, o, none⟩ ∧ b < w.heap.size ∧ ∀ i, i < len → ∀ j, j < 9 → w.cell? ⟨b, o + (i * 9 + j), none⟩ = some (.int .i64 (D i j))

def RevI8 (w : World) (b : Nat) (wr : World) : Prop := ∃ M F, Own w wr b M F ∧ RevInv M

theorem RevI8.below {w w' wr : World} {b : Nat} (h : RevI8 w b wr) (hb : Below wr.heap.size wr w') : RevI8 w b w' := by
  obtain ⟨M, F, h1, h2⟩ := h
  exact ⟨M, F, h1.below hb, h2⟩

theorem rev_give {w wr : World} {b : Nat} (h : RevI8 w b wr) (e s t r : Int) :
    Calls Try.prog 19 #[.pointer (some ⟨b, 0, none⟩), .int .i64 e, .int .i64 s, .int .i64 t, .int .i64 r] wr fun y w' =>
      (∃ p q : Int, y = .returned (.tuple #[.int .i64 p, .int .i64 q])) ∧ RevI8 w b w' := by
  obtain ⟨M, F, h1, h2⟩ := h
  refine (give_any h1.caps e s t r).mono ?_
  rintro y w' ⟨rfl, hm, hc⟩
  exact ⟨⟨_, _, rfl⟩, _, _, h1.step hm hc, h2.give e s t r⟩

theorem rev_drop {w wr : World} {b : Nat} (h : RevI8 w b wr) (e s : Int) (hne : ¬ (e = 1 ∧ s = 1)) :
    Calls Try.prog 18 #[.pointer (some ⟨b, 0, none⟩), .int .i64 e, .int .i64 s] wr fun y w' =>
      (∃ (p : Bool) (q : Int), y = .returned (.tuple #[.bool p, .int .i64 q])) ∧ RevI8 w b w' := by
  obtain ⟨M, F, h1, h2⟩ := h
  refine (drop_any h1.caps e s).mono ?_
  rintro y w' ⟨rfl, hm, hc⟩
  exact ⟨⟨_, _, rfl⟩, _, _, h1.step hm hc, h2.drop e s hne⟩

set_option maxRecDepth 100000 in
set_option maxHeartbeats 1000000 in
theorem rev_walk (A : Option Addr) (len cap : Nat) (D : Nat → Nat → Int) (w : World) (hl : DeedSl w A len D) (hmax : len ≤ maxLen) :
    Calls Try.prog 4 #[.slice A len cap] w fun y w' => y = .returned (.bool true) ∧ Below w.heap.size w w' := by
  unfold maxLen at hmax
  go_enter Try.func4, Try.ntmps4
  go_wp2_with fail
  refine (new_any _).mono ?_
  rintro y w1 ⟨rfl, hw1⟩
  have o1 : Own w w1 w.heap.size CM.empty (fun k => k = w.heap.size) := by rw [← hw1]; exact Own.new (Below.refl _ _)
  clear hw1
  go_wp2_with fail
  refine (frame_any _ _ _).mono ?_
  rintro y w2 ⟨rfl, hb2⟩
  have o2 := o1.below hb2
  have c2 := add_any o2.caps 1 ⟨1, 5, 1, 7⟩
  rw [aw_add] at c2
  clear o1 hb2
  go_wp2_with fail
  refine c2.mono ?_
  rintro y w3 ⟨rfl, hm3, hc3⟩
  have hI : RevI8 w w.heap.size w3 := ⟨_, _, o2.step hm3 hc3, RevInv.start⟩
  clear o2 hm3 hc3 c2
  go_wp2
  go_loopw [6] (fun t wr => ∃ k : Nat, k ≤ len ∧ k ≤ 150 ∧ t = .int .i64 k ∧ RevI8 w w.heap.size wr) (fun t _ => 151 - (intOf t).toNat)
  case atStart => exact ⟨0, by omega, by omega, rfl, hI⟩
  case round =>
    obtain ⟨k, hk, hk150, rfl, hIr⟩ := hrel
    clear hI
    by_cases hlt : k < len ∧ k < 150
    · obtain ⟨hlt1, hlt2⟩ := hlt
      rcases hl with h0 | ⟨b, o, rfl, hb, hcell⟩
      · omega
      have hbel : Below w.heap.size w wr := by obtain ⟨M, F, h1, _⟩ := hIr; exact h1.bel
      have cc : ∀ j, j < 9 → wr.cell? ⟨b, o + k * 9 + j, none⟩ = some (.int .i64 (D k j)) := by
        intro j hj
        rw [hbel.cell (by exact hb), Nat.add_assoc]
        exact hcell k hlt1 j hj
      have d0 := cc 0 (by omega)
      have d1 := cc 1 (by omega)
      have d2 := cc 2 (by omega)
      have d3 := cc 3 (by omega)
      have d4 := cc 4 (by omega)
      have d5 := cc 5 (by omega)
      have d6 := cc 6 (by omega)
      have d7 := cc 7 (by omega)
      have d8 := cc 8 (by omega)
      rw [Nat.add_zero] at d0
      clear cc hcell hbel
      go_wp2_with fail
      all_goals first
        | (refine (rev_give (RevI8.below hIr ((Below.refl _ _).alloc (Nat.le_refl _) _)) _ _ _ _).mono ?_
           rintro y w4 ⟨⟨p, q, rfl⟩, hI4⟩
           clear hIr d0 d1 d2 d3 d4 d5 d6 d7 d8
           go_wp2
           go_roundw
           case rel => exact ⟨k + 1, by omega, by omega, by go_num, hI4⟩
           case measure => simp [intOf]; omega)
        | (refine (rev_drop (RevI8.below hIr ((Below.refl _ _).alloc (Nat.le_refl _) _)) _ _ (by first | omega | (rintro ⟨_, h2⟩; simp_all))).mono ?_
           rintro y w4 ⟨⟨p, q, rfl⟩, hI4⟩
           clear hIr d0 d1 d2 d3 d4 d5 d6 d7 d8
           go_wp2
           go_roundw
           case rel => exact ⟨k + 1, by omega, by omega, by go_num, hI4⟩
           case measure => simp [intOf]; omega)
        | (go_roundw
           case rel => exact ⟨k + 1, by omega, by omega, by go_num, RevI8.below hIr ((Below.refl _ _).alloc (Nat.le_refl _) _)⟩
           case measure => simp [intOf]; omega)
    · obtain ⟨M, F, hown, hinv⟩ := hIr
      obtain ⟨n, l, hrev⟩ := hinv.revoke
      have cr := revoke_any hown.caps 1 1
      rw [hrev] at cr
      clear hl hinv hrev
      have hstop : (len ≤ k) ∨ (k < len ∧ 150 ≤ k) := by omega
      rcases hstop with hs | ⟨hs1, hs2⟩
      all_goals
        go_wp2_with fail
        refine cr.mono ?_
        rintro y w4 ⟨rfl, hm4, hc4⟩
        have o4 := hown.step hm4 hc4
        have hI4 : ∃ F, Own w w4 w.heap.size ⟨[rootE], l⟩ F := ⟨_, o4⟩
        clear cr hown hm4 hc4 o4
        go_wp2
        go_loopw [10, 11] (fun n t wr => ∃ j : Nat, j ≤ 64 ∧ t = .int .i64 ((j : Int) + 1) ∧ n = .int .i64 (if j = 0 then 0 else 1) ∧ ∃ F, Own w wr w.heap.size ⟨[rootE], l⟩ F) (fun _ t _ => 70 - (intOf t).toNat)
        case atStart => exact ⟨0, by omega, rfl, rfl, hI4⟩
        case round =>
          obtain ⟨j, hj, rfl, rfl, F5, o5⟩ := hrel
          clear hI4
          by_cases hj64 : j < 64
          · have cg := get_any o5.caps 1 ((j : Int) + 1)
            have hroot : (findE (⟨[rootE], l⟩ : CM).L 1 ((j : Int) + 1)).isSome = (j + 1 == 1) := by
              have := root_find l (j + 1)
              simpa using this
            rw [hroot] at cg
            obtain ⟨ga, hga⟩ : ∃ ga, ga = getA (findE (⟨[rootE], l⟩ : CM).L 1 ((j : Int) + 1)) := ⟨_, rfl⟩
            obtain ⟨q0, q1, q2, q3, hq⟩ : ∃ q0 q1 q2 q3 : Int, ga = #[.int .i64 q0, .int .i64 q1, .int .i64 q2, .int .i64 q3] := by
              rw [hga]
              cases findE (⟨[rootE], l⟩ : CM).L 1 ((j : Int) + 1) with
              | none => exact ⟨0, 0, 0, 0, rfl⟩
              | some c => exact ⟨_, _, _, _, rfl⟩
            rw [← hga, hq] at cg
            clear hga hq hroot
            by_cases hj0 : j = 0
            · subst hj0
              go_wp2_with fail
              refine cg.mono ?_
              rintro y w6 ⟨rfl, hb6⟩
              have o6 := (o5.below hb6)
              have o7 := o6.below ((Below.refl _ _).alloc (Nat.le_refl _) (.cells #[.int .i64 q0, .int .i64 q1, .int .i64 q2, .int .i64 q3] 28))
              clear cg o5 o6 hb6
              go_wp2
              go_roundw
              case rel => exact ⟨1, by omega, rfl, rfl, _, o7⟩
              case measure => simp [intOf]
            · have hne : (j + 1 == 1) = false := by rw [beq_eq_false_iff_ne]; omega
              rw [hne] at cg
              rw [if_neg hj0]
              go_wp2_with fail
              refine cg.mono ?_
              rintro y w6 ⟨rfl, hb6⟩
              have o6 := (o5.below hb6)
              have o7 := o6.below ((Below.refl _ _).alloc (Nat.le_refl _) (.cells #[.int .i64 q0, .int .i64 q1, .int .i64 q2, .int .i64 q3] 28))
              clear cg o5 o6 hb6 hne
              go_wp2
              go_roundw
              case rel => exact ⟨j + 1, by omega, by go_num, by rw [if_neg (by omega)], _, o7⟩
              case measure => simp [intOf]; omega
          · have hje : j = 64 := by omega
            subst hje
            have ch := holders_any o5.caps 1 5
            rw [root_hold l] at ch
            have hbel := o5.bel
            clear o5
            go_wp2_with fail
            refine ch.mono ?_
            rintro y w6 ⟨v, rfl, hown, hb6⟩
            clear ch
            obtain ⟨A', c', rfl, hA⟩ := Rd.of_own hown
            have hrdA : Rd (w6.alloc (.cells #[.int .i64 1] 3)) (.slice A' 1 c') ([1].map (Value.int .i64)) := Rd.below ⟨A', c', rfl, hA⟩ ((Below.refl _ _).alloc (Nat.le_refl _) _)
            have hrdB : Rd (w6.alloc (.cells #[.int .i64 1] 3)) (.slice (some ⟨w6.heap.size, 0, none⟩) 1 1) ([1].map (Value.int .i64)) := by
              refine ⟨_, _, rfl, fun _ => ⟨_, _, rfl, by simp, fun j u hu => ?_⟩⟩
              rw [Nat.zero_add, World.cell?_alloc_new]
              simpa using hu
            have ci2 := ints_any _ _ _ [1] [1] hrdA hrdB (by decide)
            have he : eqInts [1] [1] = true := rfl
            rw [he] at ci2
            have hb7 := (hbel.trans (hb6.mono hbel.size))
            clear hrdA hrdB hA hown hb6 he hbel
            go_wp2_with fail
            refine ci2.mono ?_
            rintro y w7 ⟨rfl, hS⟩
            have hb8 : Below w.heap.size w w7 := below_same (hb7.alloc hb7.size _) hS
            clear ci2 hS hb7
            go_wp2_with fail
            refine (awake_any w7).mono ?_
            rintro y w8 ⟨rfl, hb9⟩
            go_wp2
            go_ret
            exact ⟨rfl, hb8.trans (hb9.mono hb8.size)⟩

end Go.Proofs.Ytmhnnfcbpnofhaa
