/- Law CapsRoom. -/
import Derived.Test.YtmhnnfcbpnofhaaCapsL0
namespace Go.Proofs.Ytmhnnfcbpnofhaa
open Go.RowKit

/-- k capabilities for frames 1 to k, in the slots 1 to k of environment 3. -/
def roomM : Nat → CM
  | 0 => CM.empty
  | k + 1 => if k < 64 then ⟨(roomM k).L ++ [⟨(k : Int) + 1, 0, 3, (k : Int) + 1, ⟨1, (k : Int) + 1, 1, 7⟩⟩], (k : Int) + 1⟩ else roomM k

def roomOk (k : Nat) : Bool := (freeE (roomM k).L 3 == if k < 64 then k + 1 else 0) && (if k < 64 then (roomM k).last == (k : Int) else true)

set_option maxRecDepth 100000 in
theorem room_ok : (List.range 66).all roomOk = true := by decide +kernel

theorem room_add (k : Nat) (hk : k < 66) : (roomM k).add 3 ⟨1, (k : Int) + 1, 1, 7⟩ = (if k < 64 then ((k : Int) + 1, 0) else (0, 105), roomM (k + 1)) := by
  have h := List.all_eq_true.1 room_ok k (List.mem_range.2 hk)
  unfold roomOk at h
  simp only [Bool.and_eq_true, beq_iff_eq] at h
  obtain ⟨h1, h2⟩ := h
  have hm : mayB ⟨1, (k : Int) + 1, 1, 7⟩ = true := by simp [mayB]; omega
  unfold CM.add
  rw [show isB 3 = true from rfl, hm]
  simp only [Bool.and_self, if_true]
  unfold CM.put
  rw [h1]
  by_cases hlt : k < 64
  · simp only [if_pos hlt] at h2 ⊢
    rw [if_neg (by omega)]
    have h2 : (roomM k).last = k := by simpa using h2
    rw [h2]
    simp [roomM, hlt]
  · simp only [if_neg hlt]
    simp [roomM, hlt]

def roomLast (m : Nat) : Bool :=
  let d := ((roomM m).drop 3 2).2.add 3 ⟨1, 99, 1, 1⟩
  if 2 ≤ m then d.1.1 == 2 && d.1.2 == 0 else true

set_option maxRecDepth 100000 in
theorem room_last : (List.range 67).all roomLast = true := by decide +kernel

def RoomI (w : World) (b k : Nat) (wr : World) : Prop := ∃ F, Own w wr b (roomM k) F

set_option maxRecDepth 100000 in
set_option maxHeartbeats 1000000 in
theorem room_walk (a0 : Int) (w : World) :
    Calls Try.prog 3 #[.int .i64 a0] w fun e w' => e = .returned (.bool true) ∧ Below w.heap.size w w' := by
  obtain ⟨m, hm66, hcase⟩ : ∃ m : Nat, m ≤ 66 ∧ ((a0 ≤ 0 ∧ m = 0) ∨ (66 < a0 ∧ m = 66) ∨ (0 < a0 ∧ a0 ≤ 66 ∧ a0 = m)) := by
    by_cases h1 : a0 ≤ 0
    · exact ⟨0, by omega, .inl ⟨h1, rfl⟩⟩
    · by_cases h2 : 66 < a0
      · exact ⟨66, by omega, .inr (.inl ⟨h2, rfl⟩)⟩
      · exact ⟨a0.toNat, by omega, .inr (.inr ⟨by omega, by omega, by omega⟩)⟩
  rcases hcase with ⟨h1, rfl⟩ | ⟨h1, rfl⟩ | ⟨h1, h2, rfl⟩
  · go_enter Try.func3, Try.ntmps3
    go_wp2_with fail
    refine (new_any _).mono ?_
    rintro y w1 ⟨rfl, hw1⟩
    have o1 : RoomI w w.heap.size 0 w1 := ⟨_, by rw [← hw1]; exact Own.new (Below.refl _ _)⟩
    clear hw1
    go_wp2
    go_loopw [4] (fun t wr => ∃ k : Nat, k ≤ 0 ∧ t = .int .i64 ((k : Int) + 1) ∧ RoomI w w.heap.size k wr) (fun t _ => 70 - (intOf t).toNat)
    case atStart => exact ⟨0, by omega, rfl, o1⟩
    case round =>
      obtain ⟨k, hk, rfl, F, o2⟩ := hrel
      clear o1
      have hkm : k = 0 := by omega
      subst hkm
      have ha := awake_any wr
      have hbel := o2.bel
      go_wp2_with fail
      refine ha.mono ?_
      rintro y w3 ⟨rfl, hb⟩
      clear o2 ha
      go_wp2
      go_ret
      exact ⟨rfl, hbel.trans (hb.mono hbel.size)⟩
  · go_enter Try.func3, Try.ntmps3
    go_wp2_with fail
    refine (new_any _).mono ?_
    rintro y w1 ⟨rfl, hw1⟩
    have o1 : RoomI w w.heap.size 0 w1 := ⟨_, by rw [← hw1]; exact Own.new (Below.refl _ _)⟩
    clear hw1
    go_wp2
    go_loopw [4] (fun t wr => ∃ k : Nat, k ≤ 66 ∧ t = .int .i64 ((k : Int) + 1) ∧ RoomI w w.heap.size k wr) (fun t _ => 70 - (intOf t).toNat)
    case atStart => exact ⟨0, by omega, rfl, o1⟩
    case round =>
      obtain ⟨k, hk, rfl, F, o2⟩ := hrel
      clear o1
      by_cases hlt : k < 66
      · go_wp2_with fail
        refine (frame_any _ _ _).mono ?_
        rintro y w2 ⟨rfl, hb2⟩
        have o3 := o2.below hb2
        have ca := add_any o3.caps 3 ⟨1, (k : Int) + 1, 1, 7⟩
        rw [room_add k (by omega)] at ca
        by_cases h64 : k < 64
        · rw [if_pos h64] at ca
          clear o2 hb2
          go_wp2_with fail
          refine ca.mono ?_
          rintro y w3 ⟨rfl, hm3, hc3⟩
          have o4 : RoomI w w.heap.size (k + 1) w3 := ⟨_, o3.step hm3 hc3⟩
          clear ca o3 hm3 hc3
          go_wp2
          go_roundw
          case rel => exact ⟨k + 1, by omega, by go_num, o4⟩
          case measure => simp [intOf]; omega
        · rw [if_neg h64] at ca
          clear o2 hb2
          go_wp2_with fail
          refine ca.mono ?_
          rintro y w3 ⟨rfl, hm3, hc3⟩
          have o4 : RoomI w w.heap.size (k + 1) w3 := ⟨_, o3.step hm3 hc3⟩
          clear ca o3 hm3 hc3
          go_wp2
          go_roundw
          case rel => exact ⟨k + 1, by omega, by go_num, o4⟩
          case measure => simp [intOf]; omega
      · have hkm : k = 66 := by omega
        subst hkm
        have hl := List.all_eq_true.1 room_last 66 (List.mem_range.2 (by omega))
        unfold roomLast at hl
        rw [if_pos (by omega)] at hl
        simp only [Bool.and_eq_true, beq_iff_eq] at hl
        have cd := drop_any o2.caps 3 2
        go_wp2_with fail
        refine cd.mono ?_
        rintro y w3 ⟨rfl, hm3, hc3⟩
        have o3 := o2.step hm3 hc3
        go_wp2_with fail
        refine (frame_any _ _ _).mono ?_
        rintro y w4 ⟨rfl, hb4⟩
        have o4 := o3.below hb4
        have ca := add_any o4.caps 3 ⟨1, 99, 1, 1⟩
        rw [hl.1, hl.2] at ca
        clear o2 o3 hm3 hc3 hb4 cd hl
        go_wp2_with fail
        refine ca.mono ?_
        rintro y w5 ⟨rfl, hm5, hc5⟩
        have o5 := o4.step hm5 hc5
        have hbel := o5.bel
        have ha := awake_any w5
        clear ca o4 hm5 hc5 o5
        go_wp2_with fail
        refine ha.mono ?_
        rintro y w6 ⟨rfl, hb⟩
        clear ha
        go_wp2
        go_ret
        exact ⟨rfl, hbel.trans (hb.mono hbel.size)⟩
  · go_enter Try.func3, Try.ntmps3
    go_wp2_with fail
    refine (new_any _).mono ?_
    rintro y w1 ⟨rfl, hw1⟩
    have o1 : RoomI w w.heap.size 0 w1 := ⟨_, by rw [← hw1]; exact Own.new (Below.refl _ _)⟩
    clear hw1
    go_wp2
    go_loopw [4] (fun t wr => ∃ k : Nat, k ≤ m ∧ t = .int .i64 ((k : Int) + 1) ∧ RoomI w w.heap.size k wr) (fun t _ => 70 - (intOf t).toNat)
    case atStart => exact ⟨0, by omega, rfl, o1⟩
    case round =>
      obtain ⟨k, hk, rfl, F, o2⟩ := hrel
      clear o1
      by_cases hlt : k < m
      · go_wp2_with fail
        refine (frame_any _ _ _).mono ?_
        rintro y w2 ⟨rfl, hb2⟩
        have o3 := o2.below hb2
        have ca := add_any o3.caps 3 ⟨1, (k : Int) + 1, 1, 7⟩
        rw [room_add k (by omega)] at ca
        by_cases h64 : k < 64
        · rw [if_pos h64] at ca
          clear o2 hb2
          go_wp2_with fail
          refine ca.mono ?_
          rintro y w3 ⟨rfl, hm3, hc3⟩
          have o4 : RoomI w w.heap.size (k + 1) w3 := ⟨_, o3.step hm3 hc3⟩
          clear ca o3 hm3 hc3
          go_wp2
          go_roundw
          case rel => exact ⟨k + 1, by omega, by go_num, o4⟩
          case measure => simp [intOf]; omega
        · rw [if_neg h64] at ca
          clear o2 hb2
          go_wp2_with fail
          refine ca.mono ?_
          rintro y w3 ⟨rfl, hm3, hc3⟩
          have o4 : RoomI w w.heap.size (k + 1) w3 := ⟨_, o3.step hm3 hc3⟩
          clear ca o3 hm3 hc3
          go_wp2
          go_roundw
          case rel => exact ⟨k + 1, by omega, by go_num, o4⟩
          case measure => simp [intOf]; omega
      · have hkm : k = m := by omega
        subst hkm
        by_cases h2 : k < 2
        · have ha := awake_any wr
          have hbel := o2.bel
          go_wp2_with fail
          refine ha.mono ?_
          rintro y w3 ⟨rfl, hb⟩
          clear o2 ha
          go_wp2
          go_ret
          exact ⟨rfl, hbel.trans (hb.mono hbel.size)⟩
        · have hl := List.all_eq_true.1 room_last k (List.mem_range.2 (by omega))
          unfold roomLast at hl
          rw [if_pos (by omega)] at hl
          simp only [Bool.and_eq_true, beq_iff_eq] at hl
          have cd := drop_any o2.caps 3 2
          go_wp2_with fail
          refine cd.mono ?_
          rintro y w3 ⟨rfl, hm3, hc3⟩
          have o3 := o2.step hm3 hc3
          go_wp2_with fail
          refine (frame_any _ _ _).mono ?_
          rintro y w4 ⟨rfl, hb4⟩
          have o4 := o3.below hb4
          have ca := add_any o4.caps 3 ⟨1, 99, 1, 1⟩
          rw [hl.1, hl.2] at ca
          clear o2 o3 hm3 hc3 hb4 cd hl
          go_wp2_with fail
          refine ca.mono ?_
          rintro y w5 ⟨rfl, hm5, hc5⟩
          have o5 := o4.step hm5 hc5
          have hbel := o5.bel
          have ha := awake_any w5
          clear ca o4 hm5 hc5 o5
          go_wp2_with fail
          refine ha.mono ?_
          rintro y w6 ⟨rfl, hb⟩
          clear ha
          go_wp2
          go_ret
          exact ⟨rfl, hbel.trans (hb.mono hbel.size)⟩

end Go.Proofs.Ytmhnnfcbpnofhaa
