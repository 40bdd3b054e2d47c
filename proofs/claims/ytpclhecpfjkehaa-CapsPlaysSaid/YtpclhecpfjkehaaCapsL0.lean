/- Laws of layer 8: frame, awake. -/
import Derived.Test.YtpclhecpfjkehaaCapsW15
import Derived.Test.YtpclhecpfjkehaaInts
namespace Go.Proofs.Ytpclhecpfjkehaa
open Go.RowKit

/-- Capabilities that the call itself has made, in blocks of F; of what was there when the call began nothing has turned. -/
structure Own (w0 w : World) (b : Nat) (M : CM) (F : Nat → Prop) : Prop where
  bel : Below w0.heap.size w0 w
  caps : Caps w b M F
  ge : ∀ k, F k → w0.heap.size ≤ k

theorem Own.step {w0 w w' : World} {b : Nat} {M M' : CM} {F : Nat → Prop} (h : Own w0 w b M F) (hm : Mod F w w') (hc : Caps w' b M' (New F w w')) : Own w0 w' b M' (New F w w') :=
  ⟨h.bel.trans (hm.below h.bel.size (fun i hi hF => by have := h.ge i hF; omega)), hc, fun k hk => hk.elim (h.ge k) (fun h1 => by have := h.bel.size; omega)⟩

theorem Own.below {w0 w w' : World} {b : Nat} {M : CM} {F : Nat → Prop} (h : Own w0 w b M F) (hb : Below w.heap.size w w') : Own w0 w' b M F :=
  ⟨h.bel.trans (hb.mono h.bel.size), h.caps.below hb, h.ge⟩

theorem Own.same {w0 w w' : World} {b : Nat} {M : CM} {F : Nat → Prop} (h : Own w0 w b M F) (hs : Same w' w) : Own w0 w' b M F :=
  h.below (below_same (Below.refl _ _) hs)

theorem findE_empty (e s : Int) : findE CM.empty.L e s = none := rfl

theorem Own.new {w0 w : World} (hb : Below w0.heap.size w0 w) : Own w0 (w.alloc (.cells zeroCaps 88)) w.heap.size CM.empty (fun k => k = w.heap.size) := by
  refine ⟨hb.alloc hb.size _, ⟨CM.WF.ofEmpty, fun k hk => by simp; omega, fun _ => 0, ⟨⟨zeroCaps, by rw [heap_alloc, if_pos rfl], zeroCaps_size, fun e s he hs => ?_⟩, (fun x hx => by cases hx), (fun x hx => by cases hx)⟩, rfl, (fun x hx => by cases hx)⟩, fun k hk => by have := hb.size; omega⟩
  rw [findE_empty]
  exact zeroCaps_at _ (by omega)

theorem frame_any (i r : Int) (w : World) :
    Calls Try.prog 63 #[.int .i64 i, .int .i64 r] w fun y w' =>
      y = .returned (.agg #[.int .i64 1, .int .i64 i, .int .i64 1, .int .i64 r]) ∧ Below w.heap.size w w' := by
  go_enter Try.func63, Try.ntmps63
  go_wp2
  exact bodyPost_ret (v := .agg #[.int .i64 1, .int .i64 i, .int .i64 1, .int .i64 r]) (by simp [results, Try.results63, go_sem]) rfl ⟨rfl, (Below.refl _ _).alloc (Nat.le_refl _) _⟩

/-! The states of 'awake'. -/
def aw1 : CM := ⟨[⟨1, 0, 1, 1, ⟨1, 5, 1, 7⟩⟩], 1⟩
def aw2 : CM := ⟨[⟨1, 0, 1, 1, ⟨1, 5, 1, 7⟩⟩, ⟨2, 1, 2, 1, ⟨1, 5, 1, 1⟩⟩], 2⟩
def aw3 : CM := ⟨[⟨1, 0, 1, 1, ⟨1, 5, 1, 7⟩⟩], 2⟩
def aw4 : CM := ⟨[], 2⟩
theorem aw_add : CM.empty.add 1 ⟨1, 5, 1, 7⟩ = ((1, 0), aw1) := by rfl
theorem aw_give : aw1.give 1 1 2 1 = ((1, 0), aw2) := by rfl
theorem aw_give2 : aw2.give 2 1 3 1 = ((0, 104), aw2) := by rfl
theorem aw_has1 : aw2.has 2 1 5 1 = true := by rfl
theorem aw_has2 : aw2.has 2 1 5 2 = false := by rfl
theorem aw_hold : aw2.holders 1 5 = [1, 2] := by rfl
theorem aw_rev : aw2.revoke 1 1 = ((1, 0), aw3) := by rfl
theorem aw_drop : aw3.drop 1 1 = ((true, 0), aw4) := by rfl

theorem Rd.mod {w w' : World} {v : Value} {xs : List Value} {F : Nat → Prop} (h : Rd w v xs) (hm : Mod F w w') (hF : ∀ g A n c, v = .slice (some ⟨g, A, none⟩) n c → ¬ F g) : Rd w' v xs :=
  h.keep hm.size fun g A n c hv hg => hm.block g hg (hF g A n c hv)

set_option maxRecDepth 100000 in
set_option maxHeartbeats 1000000 in
theorem awake_any (w : World) : Calls Try.prog 18 #[] w fun y w' => y = .returned (.bool true) ∧ Below w.heap.size w w' := by
  go_enter Try.func18, Try.ntmps18
  go_wp2_with fail
  refine (new_any _).mono ?_
  rintro y w1 ⟨rfl, hw1⟩
  have o1 : Own w w1 w.heap.size CM.empty (fun k => k = w.heap.size) := by rw [← hw1]; exact Own.new (Below.refl _ _)
  clear hw1
  go_wp2_with fail
  refine (frame_any _ _ _).mono ?_
  rintro y w2 ⟨rfl, hb2⟩
  have o2 := o1.below hb2
  have c2 := add_any o2.caps 1 ⟨1, 5, 1, 7⟩
  rw [aw_add] at c2
  clear o1 hb2
  go_wp2_with fail
  refine c2.mono ?_
  rintro y w3 ⟨rfl, hm3, hc3⟩
  have o3 := o2.step hm3 hc3
  have c3 := give_any o3.caps 1 1 2 1
  rw [aw_give] at c3
  clear o2 hm3 hc3 c2
  go_wp2_with fail
  refine c3.mono ?_
  rintro y w4 ⟨rfl, hm4, hc4⟩
  have o4 := o3.step hm4 hc4
  have c4 := give_any o4.caps 2 1 3 1
  rw [aw_give2] at c4
  clear o3 hm4 hc4 c3
  go_wp2_with fail
  refine c4.mono ?_
  rintro y w5 ⟨rfl, hm5, hc5⟩
  have o5 := o4.step hm5 hc5
  have c5 := has_any o5.caps 2 1 5 1 (by omega)
  rw [aw_has1] at c5
  clear o4 hm5 hc5 c4
  go_wp2_with fail
  refine c5.mono ?_
  rintro y w6 ⟨rfl, hb6⟩
  have o6 := o5.below hb6
  have c6 := has_any o6.caps 2 1 5 2 (by omega)
  rw [aw_has2] at c6
  clear o5 hb6 c5
  go_wp2_with fail
  refine c6.mono ?_
  rintro y w7 ⟨rfl, hb7⟩
  have o7 := o6.below hb7
  have c7 := holders_any o7.caps 1 5
  rw [aw_hold] at c7
  clear o6 hb7 c6
  go_wp2_with fail
  refine c7.mono ?_
  rintro y w8 ⟨v, rfl, hown, hb8⟩
  have o8 := o7.below hb8
  have hrd := Rd.of_own hown
  have hvF : ∀ g A n c, v = .slice (some ⟨g, A, none⟩) n c → w7.heap.size ≤ g := fun g A n c hv => (hown.lt g (by rw [hv]; rfl)).1
  have c8 := revoke_any o8.caps 1 1
  rw [aw_rev] at c8
  clear hb8 c7 hown
  go_wp2_with fail
  refine c8.mono ?_
  rintro y w9 ⟨rfl, hm9, hc9⟩
  have o9 := o8.step hm9 hc9
  have hrd9 := hrd.mod hm9 (fun g A n c hv hF => by have := hvF g A n c hv; have := o7.caps.lt g hF; omega)
  have hvF9 : ∀ g A n c, v = .slice (some ⟨g, A, none⟩) n c → g < w8.heap.size := fun g A n c hv => by
    obtain ⟨A', c', hv', h1⟩ := hrd
    rw [hv] at hv'
    injection hv' with e1 e2 _
    obtain ⟨g', o', hg', hlt, _⟩ := h1 (by simp)
    rw [← e1] at hg'
    injection hg' with hg'
    injection hg' with hg' _
    omega
  have c9 := drop_any o9.caps 1 1
  rw [aw_drop] at c9
  have hsz89 := hm9.size
  have hnF : ∀ g A n c, v = .slice (some ⟨g, A, none⟩) n c → ¬ New _ w8 w9 g := fun g A n c hv hF => by
    rcases hF with hF | ⟨h1, h2⟩
    · have := hvF g A n c hv; have := o7.caps.lt g hF; omega
    · have := hvF9 g A n c hv; omega
  clear o8 hm9 hc9 c8 hrd o7
  go_wp2_with fail
  refine c9.mono ?_
  rintro y w10 ⟨rfl, hm10, hc10⟩
  have o10 := o9.step hm10 hc10
  have hrd10 := hrd9.mod hm10 hnF
  obtain ⟨A, c, rfl, hA⟩ := hrd10
  have ci := fun (wx : World) (h : Rd wx (.slice (some ⟨w10.heap.size, 0, none⟩) 2 2) ([1, 2].map (Value.int .i64))) (h' : Rd wx (.slice A 2 c) ([1, 2].map (Value.int .i64))) => ints_any wx (.slice A 2 c) (.slice (some ⟨w10.heap.size, 0, none⟩) 2 2) [1, 2] [1, 2] h' h (by decide)
  have hbel := o10.bel
  have hrdA : Rd (w10.alloc (.cells #[.int .i64 1, .int .i64 2] 3)) (.slice A 2 c) ([1, 2].map (Value.int .i64)) := Rd.below ⟨A, c, rfl, hA⟩ ((Below.refl _ _).alloc (Nat.le_refl _) _)
  have hrdB : Rd (w10.alloc (.cells #[.int .i64 1, .int .i64 2] 3)) (.slice (some ⟨w10.heap.size, 0, none⟩) 2 2) ([1, 2].map (Value.int .i64)) := by
    refine ⟨_, _, rfl, fun _ => ⟨_, _, rfl, by simp, fun j u hu => ?_⟩⟩
    rw [Nat.zero_add, World.cell?_alloc_new]
    simpa using hu
  have ci2 := ci _ hrdB hrdA
  clear ci hrdA hrdB hA o9 hm10 hc10 c9 hrd9 hnF hvF9 hvF o10
  go_wp2_with fail
  refine ci2.mono ?_
  rintro y w11 ⟨rfl, hS⟩
  have he : eqInts [1, 2] [1, 2] = true := rfl
  rw [he]
  go_wp2
  go_ret
  exact ⟨rfl, below_same (hbel.alloc hbel.size _) hS⟩

end Go.Proofs.Ytpclhecpfjkehaa
