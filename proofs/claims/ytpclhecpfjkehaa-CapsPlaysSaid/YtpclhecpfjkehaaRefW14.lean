/- Law CapsPlays: the walk. -/
import Derived.Test.YtpclhecpfjkehaaRefW13
import Derived.Test.YtpclhecpfjkehaaOpen
import Derived.Deep.RegionHeld3
namespace Go.Proofs.Ytpclhecpfjkehaa
open Go.RowKit

/-- What a slice of deeds holds: nine numbers each. -/
def DeedSl8 (w : World) (A : Option Addr) (len : Nat) (D : Nat → Nat → Int) : Prop :=
  len = 0 ∨ ∃ b o, A = some ⟨b, o, none⟩ ∧ b < w.heap.size ∧ ∀ i, i < len → ∀ j, j < 9 → w.cell? ⟨b, o + (i * 9 + j), none⟩ = some (.int .i64 (D i j)) ∧ D i j ≤ 9223372036854775807

theorem and7 (r : Int) : 0 ≤ bits BinOp.and IntKind.i64 r 7 ∧ bits BinOp.and IntKind.i64 r 7 ≤ 7 := by
  have h7 : (BitVec.ofInt 64 7).toNat = 2 ^ 3 - 1 := by decide
  have key : (BitVec.ofInt 64 r &&& BitVec.ofInt 64 7).toNat = (r % ((2 ^ 64 : Nat) : Int)).toNat % 2 ^ 3 := by
    rw [BitVec.toNat_and, BitVec.toNat_ofInt, h7, Nat.and_two_pow_sub_one_eq_mod]
  have h : bits BinOp.and IntKind.i64 r 7 = r % 8 := by
    show IntKind.i64.wrap ((BitVec.ofInt 64 r &&& BitVec.ofInt 64 7).toNat : Nat) = r % 8
    rw [key, IntKind.wrap_i64]
    omega
  omega

theorem Two.start (w : World) : Two w ((w.alloc (.cells zeroCaps 88)).alloc (.cells #[.slice none 0 0, .int .i64 0] 28)) w.heap.size (w.heap.size + 1) CM.empty CM.empty (fun k => k = w.heap.size ∨ k = w.heap.size + 1) := by
  have h1 := Own.new (w0 := w) (Below.refl w.heap.size w)
  have hb : Below (w.alloc (.cells zeroCaps 88)).heap.size (w.alloc (.cells zeroCaps 88)) ((w.alloc (.cells zeroCaps 88)).alloc (.cells #[.slice none 0 0, .int .i64 0] 28)) := (Below.refl _ _).alloc (Nat.le_refl _) _
  have h2 := h1.below hb
  refine ⟨h2.bel, fun k hk => by omega, fun k hk => by simp; omega, _, (fun k => k = w.heap.size + 1), h2.caps, ⟨CM.WF.ofEmpty, fun k hk => by simp; omega, rfl, .slice none 0 0, ?_, World.ownsRow_nil _ _ _ _, fun k hk => by simp [Value.ownBlock] at hk⟩, fun k hk => .inl hk, fun k hk => .inr hk, fun k hk hg => by omega⟩
  rw [heap_alloc, if_pos (by simp)]
  rfl

/-- The deed's cells at block D. -/
def PlCells (D : Nat) (e0 e1 e2 e3 e4 e5 e6 e7 e8 : Int) (w : World) : Prop :=
  w.cell? ⟨D, 0, none⟩ = some (.int .i64 e0) ∧ w.cell? ⟨D, 1, none⟩ = some (.int .i64 e1) ∧ w.cell? ⟨D, 2, none⟩ = some (.int .i64 e2) ∧ w.cell? ⟨D, 3, none⟩ = some (.int .i64 e3) ∧ w.cell? ⟨D, 4, none⟩ = some (.int .i64 e4) ∧
    w.cell? ⟨D, 5, none⟩ = some (.int .i64 e5) ∧ w.cell? ⟨D, 6, none⟩ = some (.int .i64 e6) ∧ w.cell? ⟨D, 7, none⟩ = some (.int .i64 e7) ∧ w.cell? ⟨D, 8, none⟩ = some (.int .i64 e8)

theorem PlCells.keep {D : Nat} {e0 e1 e2 e3 e4 e5 e6 e7 e8 : Int} {w w' : World} (h : PlCells D e0 e1 e2 e3 e4 e5 e6 e7 e8 w) (hk : w'.heap[D]? = w.heap[D]?) : PlCells D e0 e1 e2 e3 e4 e5 e6 e7 e8 w' := by
  have hc : ∀ i, w'.cell? ⟨D, i, none⟩ = w.cell? ⟨D, i, none⟩ := fun i => World.cell?_of_block hk
  unfold PlCells at h ⊢
  simp only [hc]
  exact h

/-- A world of the law's region: the deed's cells, both structures. -/
structure PlSt (w0 : World) (b x : Nat) (M : CM) (D : Nat) (e0 e1 e2 e3 e4 e5 e6 e7 e8 : Int) (w : World) : Prop where
  cells : PlCells D e0 e1 e2 e3 e4 e5 e6 e7 e8 w
  lt : D < w.heap.size
  two : ∃ H, Two w0 w b x M M H

theorem PlSt.below {w0 w w' : World} {b x : Nat} {M : CM} {D : Nat} {e0 e1 e2 e3 e4 e5 e6 e7 e8 : Int} (h : PlSt w0 b x M D e0 e1 e2 e3 e4 e5 e6 e7 e8 w) (hb : Below w.heap.size w w') : PlSt w0 b x M D e0 e1 e2 e3 e4 e5 e6 e7 e8 w' := by
  obtain ⟨h1, h2, H, h3⟩ := h
  exact ⟨h1.keep (hb.block D h2), Nat.lt_of_lt_of_le h2 hb.size, H, h3.below hb⟩

theorem PlSt.same {w0 w w' : World} {b x : Nat} {M : CM} {D : Nat} {e0 e1 e2 e3 e4 e5 e6 e7 e8 : Int} (h : PlSt w0 b x M D e0 e1 e2 e3 e4 e5 e6 e7 e8 w) (hs : Same w' w) : PlSt w0 b x M D e0 e1 e2 e3 e4 e5 e6 e7 e8 w' :=
  h.below (below_same (Below.refl _ _) hs)

theorem PlSt.deed {w0 w : World} {b x : Nat} {M : CM} {D : Nat} {e0 e1 e2 e3 e4 e5 e6 e7 e8 : Int} {H : Nat → Prop} (hC : PlCells D e0 e1 e2 e3 e4 e5 e6 e7 e8 w) (hD : D < w.heap.size) (hT : Two w0 w b x M M H) (hH : ¬ H D) (hl : M.last ≤ 1000000) (W : World) (hW : Same W w) :
    Calls Try.prog 10 #[.pointer (some ⟨b, 0, none⟩), .pointer (some ⟨x, 0, none⟩), .agg #[.int .i64 e0, .int .i64 e1, .int .i64 e2, .int .i64 e3, .int .i64 e4, .int .i64 e5, .int .i64 e6, .int .i64 e7, .int .i64 e8]] W fun y w' =>
      y = .returned (.bool true) ∧ PlSt w0 b x (M.deed e0 e1 e2 e3 e4 ⟨e5, e6, e7, e8⟩) D e0 e1 e2 e3 e4 e5 e6 e7 e8 w' := by
  refine (do_any (hT.same hW) hl e0 e1 e2 e3 e4 ⟨e5, e6, e7, e8⟩).mono ?_
  rintro y w' ⟨rfl, hm, hT'⟩
  have hDW : D < W.heap.size := by rw [hW.1]; exact hD
  refine ⟨rfl, hC.keep ((hm.block D hDW hH).trans (by rw [hW.1])), Nat.lt_of_lt_of_le hDW hm.size, _, hT'⟩

theorem PlSt.hasL {w0 w : World} {b x : Nat} {M : CM} {D : Nat} {e0 e1 e2 e3 e4 e5 e6 e7 e8 : Int} (h : PlSt w0 b x M D e0 e1 e2 e3 e4 e5 e6 e7 e8 w) (e k i r : Int) (hr : 0 ≤ r ∧ r ≤ 7) :
    Calls Try.prog 11 #[.pointer (some ⟨b, 0, none⟩), .int .i64 e, .int .i64 k, .int .i64 i, .int .i64 r] w fun y w' => y = .returned (.bool (M.has e k i r)) ∧ PlSt w0 b x M D e0 e1 e2 e3 e4 e5 e6 e7 e8 w' := by
  obtain ⟨H, _, _, _, F, G, h4, _⟩ := h.two
  refine (has_any h4 e k i r hr).mono ?_
  rintro y w' ⟨rfl, hb⟩
  exact ⟨rfl, h.below hb⟩

theorem PlSt.hasR {w0 w : World} {b x : Nat} {M : CM} {D : Nat} {e0 e1 e2 e3 e4 e5 e6 e7 e8 : Int} (h : PlSt w0 b x M D e0 e1 e2 e3 e4 e5 e6 e7 e8 w) (e k i r : Int) (hr : 0 ≤ r ∧ r ≤ 7) (hi : i ≤ 9223372036854775807) :
    Calls Try.prog 12 #[.pointer (some ⟨x, 0, none⟩), .int .i64 e, .int .i64 k, .int .i64 i, .int .i64 r] w fun y w' => y = .returned (.bool (M.has e k i r)) ∧ PlSt w0 b x M D e0 e1 e2 e3 e4 e5 e6 e7 e8 w' := by
  obtain ⟨H, _, _, _, F, G, _, h4, _⟩ := h.two
  refine (rhas h4 e k i r hr hi).mono ?_
  rintro y w' ⟨rfl, hb⟩
  exact ⟨rfl, h.below hb⟩

theorem PlSt.holdL {w0 w : World} {b x : Nat} {M : CM} {D : Nat} {e0 e1 e2 e3 e4 e5 e6 e7 e8 : Int} (h : PlSt w0 b x M D e0 e1 e2 e3 e4 e5 e6 e7 e8 w) (k i : Int) :
    Calls Try.prog 14 #[.pointer (some ⟨b, 0, none⟩), .int .i64 k, .int .i64 i] w fun y w' => ∃ v, y = .returned v ∧ Rd w' v ((M.holders k i).map (Value.int .i64)) ∧ PlSt w0 b x M D e0 e1 e2 e3 e4 e5 e6 e7 e8 w' ∧ Below w.heap.size w w' := by
  obtain ⟨H, _, _, _, F, G, h4, _⟩ := h.two
  refine (holders_any h4 k i).mono ?_
  rintro y w' ⟨v, rfl, ho, hb⟩
  exact ⟨v, rfl, Rd.of_own ho, h.below hb, hb⟩

theorem PlSt.holdR {w0 w : World} {b x : Nat} {M : CM} {D : Nat} {e0 e1 e2 e3 e4 e5 e6 e7 e8 : Int} (h : PlSt w0 b x M D e0 e1 e2 e3 e4 e5 e6 e7 e8 w) (k i : Int) (hi : i ≤ 9223372036854775807) :
    Calls Try.prog 15 #[.pointer (some ⟨x, 0, none⟩), .int .i64 k, .int .i64 i] w fun y w' => ∃ v, y = .returned v ∧ Rd w' v ((M.holders k i).map (Value.int .i64)) ∧ PlSt w0 b x M D e0 e1 e2 e3 e4 e5 e6 e7 e8 w' ∧ Below w.heap.size w w' := by
  obtain ⟨H, _, _, _, F, G, _, h4, _⟩ := h.two
  refine (rholders h4 k i hi).mono ?_
  rintro y w' ⟨v, rfl, ho, hb⟩
  exact ⟨v, rfl, Rd.of_own ho, h.below hb, hb⟩

theorem holders_len (M : CM) (k i : Int) : (M.holders k i).length ≤ 12 := by
  unfold CM.holders
  rw [List.length_map]
  exact Nat.le_trans (List.length_filter_le _ _) (by simp)

theorem PlSt.getL {w0 w : World} {b x : Nat} {M : CM} {D : Nat} {e0 e1 e2 e3 e4 e5 e6 e7 e8 : Int} (h : PlSt w0 b x M D e0 e1 e2 e3 e4 e5 e6 e7 e8 w) (e s : Int) :
    Calls Try.prog 16 #[.pointer (some ⟨b, 0, none⟩), .int .i64 e, .int .i64 s] w fun y w' => y = .returned (.tuple #[.agg (getA (findE M.L e s)), .bool (findE M.L e s).isSome]) ∧ PlSt w0 b x M D e0 e1 e2 e3 e4 e5 e6 e7 e8 w' := by
  obtain ⟨H, _, _, _, F, G, h4, _⟩ := h.two
  refine (get_any h4 e s).mono ?_
  rintro y w' ⟨rfl, hb⟩
  exact ⟨rfl, h.below hb⟩

theorem PlSt.getR {w0 w : World} {b x : Nat} {M : CM} {D : Nat} {e0 e1 e2 e3 e4 e5 e6 e7 e8 : Int} (h : PlSt w0 b x M D e0 e1 e2 e3 e4 e5 e6 e7 e8 w) (e s : Int) :
    Calls Try.prog 17 #[.pointer (some ⟨x, 0, none⟩), .int .i64 e, .int .i64 s] w fun y w' => y = .returned (.tuple #[.agg (getA (findE M.L e s)), .bool (findE M.L e s).isSome]) ∧ PlSt w0 b x M D e0 e1 e2 e3 e4 e5 e6 e7 e8 w' ∧ Below w.heap.size w w' := by
  obtain ⟨H, _, _, _, F, G, _, h4, _⟩ := h.two
  refine (rget h4 e s).mono ?_
  rintro y w' ⟨rfl, hb⟩
  exact ⟨rfl, h.below hb, hb⟩

theorem getA_form (c : Option CE) : ∃ q0 q1 q2 q3 : Int, getA c = #[.int .i64 q0, .int .i64 q1, .int .i64 q2, .int .i64 q3] := by
  cases c with
  | none => exact ⟨0, 0, 0, 0, rfl⟩
  | some c => exact ⟨_, _, _, _, rfl⟩

theorem PlSt.ints {w0 w : World} {b x : Nat} {M : CM} {D : Nat} {e0 e1 e2 e3 e4 e5 e6 e7 e8 : Int} (h : PlSt w0 b x M D e0 e1 e2 e3 e4 e5 e6 e7 e8 w) (k i : Int) (v u : Value) (hv : Rd w v ((M.holders k i).map (Value.int .i64))) (hu : Rd w u ((M.holders k i).map (Value.int .i64))) :
    Calls Try.prog 13 #[v, u] w fun y w' => y = .returned (.bool true) ∧ PlSt w0 b x M D e0 e1 e2 e3 e4 e5 e6 e7 e8 w' := by
  refine (ints_any w v u _ _ hv hu (by have := holders_len M k i; omega)).mono ?_
  rintro y w' ⟨rfl, hs⟩
  refine ⟨ret_bool ?_, h.same hs⟩
  unfold eqInts
  simp

def PlayI (w : World) (b x k : Nat) (wr : World) : Prop := ∃ M H, Two w wr b x M M H ∧ M.last ≤ k

set_option maxRecDepth 100000 in
set_option maxHeartbeats 3200000 in
theorem plays_walk (A : Option Addr) (len cap : Nat) (D : Nat → Nat → Int) (w : World) (hl : DeedSl8 w A len D) (hmax : len ≤ maxLen) :
    Calls Try.prog 3 #[.slice A len cap] w fun y w' => y = .returned (.bool true) ∧ Below w.heap.size w w' := by
  unfold maxLen at hmax
  have HT0 := Lib.hid (Two.start w)
  go_enter Try.func3, Try.ntmps3
  go_wp2_with fail
  refine (new_any _).mono ?_
  rintro y w1 ⟨rfl, rfl⟩
  go_wp2
  obtain ⟨w2, hw2⟩ : ∃ w2, w2 = (w.alloc (.cells zeroCaps 88)).alloc (.cells #[.slice none 0 0, .int .i64 0] 28) := ⟨_, rfl⟩
  rw [← hw2]
  have hI : PlayI w w.heap.size (w.heap.size + 1) 0 w2 := ⟨CM.empty, _, by rw [hw2]; exact HT0.out, Int.le_refl _⟩
  clear hw2 HT0
  have HI := Lib.hid hI
  clear hI
  go_loopw [5] (fun t wr => ∃ k : Nat, k ≤ len ∧ k ≤ 150 ∧ t = .int .i64 k ∧ PlayI w w.heap.size (w.heap.size + 1) k wr) (fun t _ => 151 - (intOf t).toNat)
  case atStart => exact ⟨0, by omega, by omega, rfl, HI.out⟩
  case round =>
    clear HI
    obtain ⟨k, hk, hk150, rfl, hIr⟩ := hrel
    by_cases hlt : k < len ∧ k < 150
    · obtain ⟨hlt1, hlt2⟩ := hlt
      rcases hl with h0 | ⟨b, o, rfl, hb, hcell⟩
      · omega
      obtain ⟨M, H, hT, hlast⟩ := hIr
      have hbel := hT.bel
      have cc : ∀ j, j < 9 → wr.cell? ⟨b, o + k * 9 + j, none⟩ = some (.int .i64 (D k j)) := by
        intro j hj
        rw [hbel.cell (by exact hb), Nat.add_assoc]
        exact (hcell k hlt1 j hj).1
      have hid := (hcell k hlt1 6 (by omega)).2
      have d0 := cc 0 (by omega)
      have d1 := cc 1 (by omega)
      have d2 := cc 2 (by omega)
      have d3 := cc 3 (by omega)
      have d4 := cc 4 (by omega)
      have d5 := cc 5 (by omega)
      have d6 := cc 6 (by omega)
      have d7 := cc 7 (by omega)
      have d8 := cc 8 (by omega)
      rw [Nat.add_zero] at d0
      obtain ⟨e0, he0⟩ : ∃ e0, e0 = D k 0 := ⟨_, rfl⟩
      obtain ⟨e1, he1⟩ : ∃ e1, e1 = D k 1 := ⟨_, rfl⟩
      obtain ⟨e2, he2⟩ : ∃ e2, e2 = D k 2 := ⟨_, rfl⟩
      obtain ⟨e3, he3⟩ : ∃ e3, e3 = D k 3 := ⟨_, rfl⟩
      obtain ⟨e4, he4⟩ : ∃ e4, e4 = D k 4 := ⟨_, rfl⟩
      obtain ⟨e5, he5⟩ : ∃ e5, e5 = D k 5 := ⟨_, rfl⟩
      obtain ⟨e6, he6⟩ : ∃ e6, e6 = D k 6 := ⟨_, rfl⟩
      obtain ⟨e7, he7⟩ : ∃ e7, e7 = D k 7 := ⟨_, rfl⟩
      obtain ⟨e8, he8⟩ : ∃ e8, e8 = D k 8 := ⟨_, rfl⟩
      rw [← he0] at d0
      rw [← he1] at d1
      rw [← he2] at d2
      rw [← he3] at d3
      rw [← he4] at d4
      rw [← he5] at d5
      rw [← he6] at d6 hid
      rw [← he7] at d7
      rw [← he8] at d8
      clear cc hcell hbel he0 he1 he2 he3 he4 he5 he6 he7 he8
      have HT := Lib.hid hT
      clear hT
      go_upto_region 8 with fail
      obtain ⟨W, hW⟩ : ∃ W : World, W = wr.alloc (.cells #[.int .i64 e0, .int .i64 e1, .int .i64 e2, .int .i64 e3, .int .i64 e4, .int .i64 e5, .int .i64 e6, .int .i64 e7, .int .i64 e8] 32) := ⟨_, rfl⟩
      rw [← hW]
      obtain ⟨Db, hDb⟩ : ∃ Db, Db = wr.heap.size := ⟨_, rfl⟩
      rw [← hDb]
      have hTW : Two w W w.heap.size (w.heap.size + 1) M M H := by rw [hW]; exact HT.out.below ((Below.refl _ _).alloc (Nat.le_refl _) _)
      have hCW : PlCells Db e0 e1 e2 e3 e4 e5 e6 e7 e8 W := by
        rw [hW, hDb]
        unfold PlCells
        simp only [World.cell?_alloc_new]
        exact ⟨rfl, rfl, rfl, rfl, rfl, rfl, rfl, rfl, rfl⟩
      have hDW : Db < W.heap.size := by rw [hW, hDb]; simp
      have hHD : ¬ H Db := fun hh => by have := HT.out.lt _ hh; omega
      have HDo := Lib.hid (PlSt.deed hCW hDW hTW hHD (by omega))
      obtain ⟨M1, hM1⟩ : ∃ M1, M1 = M.deed e0 e1 e2 e3 e4 ⟨e5, e6, e7, e8⟩ := ⟨_, rfl⟩
      rw [← hM1] at HDo
      have hlast1 : M1.last ≤ (k : Int) + 1 := by have := M.deed_last e0 e1 e2 e3 e4 ⟨e5, e6, e7, e8⟩; rw [← hM1] at this; omega
      obtain ⟨c0, c1, c2, c3, c4, c5, c6, c7, c8⟩ := hCW
      have hrg := and7 e4
      clear hW hDb hTW hDW hHD HT hM1 d0 d1 d2 d3 d4 d5 d6 d7 d8 hlast
      go_region_held3 (fun w' => w'.cell? ⟨Db, 0, none⟩ = some (.int .i64 e0) ∧ w'.cell? ⟨Db, 1, none⟩ = some (.int .i64 e1) ∧ w'.cell? ⟨Db, 2, none⟩ = some (.int .i64 e2) ∧ w'.cell? ⟨Db, 3, none⟩ = some (.int .i64 e3) ∧ w'.cell? ⟨Db, 4, none⟩ = some (.int .i64 e4) ∧
          w'.cell? ⟨Db, 5, none⟩ = some (.int .i64 e5) ∧ w'.cell? ⟨Db, 6, none⟩ = some (.int .i64 e6) ∧ w'.cell? ⟨Db, 7, none⟩ = some (.int .i64 e7) ∧ w'.cell? ⟨Db, 8, none⟩ = some (.int .i64 e8))
        ((first | exact hS8.cells | exact hS7.cells | exact hS6.cells | exact hS5.cells | exact hS4.cells | exact hS3.cells | exact ⟨c0, c1, c2, c3, c4, c5, c6, c7, c8⟩))
        (first
          | (go_at_call 10; refine (HDo.out _ (by exact ⟨rfl, rfl, rfl, rfl⟩)).mono ?_; rintro y w3 ⟨rfl, hS3⟩)
          | (go_at_call 11; refine (PlSt.hasL (hS3.same (by exact ⟨rfl, rfl, rfl, rfl⟩)) e3 e5 e6 _ hrg).mono ?_; rintro y w4 ⟨rfl, hS4⟩)
          | (go_at_call 12; refine (PlSt.hasR (hS4.same (by exact ⟨rfl, rfl, rfl, rfl⟩)) e3 e5 e6 _ hrg hid).mono ?_; rintro y w5 ⟨rfl, hS5⟩)
          | (go_at_call 14; refine (PlSt.holdL (hS5.same (by exact ⟨rfl, rfl, rfl, rfl⟩)) e5 e6).mono ?_; rintro y w6 ⟨v6, rfl, hrd6, hS6, _⟩)
          | (go_at_call 15; refine (PlSt.holdR (hS6.same (by exact ⟨rfl, rfl, rfl, rfl⟩)) e5 e6 hid).mono ?_; rintro y w7 ⟨v7, rfl, hrd7, hS7, hb7⟩)
          | (go_at_call 13; refine (PlSt.ints (hS7.same (by exact ⟨rfl, rfl, rfl, rfl⟩)) e5 e6 _ _ (Rd.same (Rd.below (Rd.same hrd6 (by exact ⟨rfl, rfl, rfl, rfl⟩)) hb7) (by exact ⟨rfl, rfl, rfl, rfl⟩)) (Rd.same hrd7 (by exact ⟨rfl, rfl, rfl, rfl⟩))).mono ?_; rintro y w8 ⟨rfl, hS8⟩))
      have HS := Lib.hid hS8
      have HM1 := Lib.hid hlast1
      clear hS3 hS4 hS5 hS6 hS7 hS8 hrd6 hrd7 hb7 HDo c0 c1 c2 c3 c4 c5 c6 c7 c8 hrg hlast1
      go_wp2
      go_loopw [7] (fun t wr => ∃ s : Nat, s ≤ 5 ∧ t = .int .i64 s ∧ PlSt w w.heap.size (w.heap.size + 1) M1 Db e0 e1 e2 e3 e4 e5 e6 e7 e8 wr) (fun t _ => 6 - (intOf t).toNat)
      case atStart => exact ⟨0, by omega, rfl, HS.out.same ⟨rfl, rfl, rfl, rfl⟩⟩
      case round =>
        clear HS
        obtain ⟨s, hs5, rfl, hS⟩ := hrel
        by_cases hs4 : s ≤ 4
        · have c3 := hS.cells.2.2.2.1
          have hg1 := hS.getL e3 s
          have HDlt := hS.lt
          obtain ⟨q0, q1, q2, q3, hq⟩ := getA_form (findE M1.L e3 s)
          obtain ⟨is, his⟩ : ∃ is, is = (findE M1.L e3 s).isSome := ⟨_, rfl⟩
          have HG2 : Hid (∀ w', PlSt w w.heap.size (w.heap.size + 1) M1 Db e0 e1 e2 e3 e4 e5 e6 e7 e8 w' → Calls Try.prog 17 #[.pointer (some ⟨w.heap.size + 1, 0, none⟩), .int .i64 e3, .int .i64 s] w' fun y w2 => y = .returned (.tuple #[.agg #[.int .i64 q0, .int .i64 q1, .int .i64 q2, .int .i64 q3], .bool is]) ∧ PlSt w w.heap.size (w.heap.size + 1) M1 Db e0 e1 e2 e3 e4 e5 e6 e7 e8 w2 ∧ Below w'.heap.size w' w2) := fun w' h' => by
            have := h'.getR e3 s
            rw [hq, ← his] at this
            exact this
          rw [hq, ← his] at hg1
          clear hq his hS
          go_wp2_with fail
          refine hg1.mono ?_
          rintro y w4 ⟨rfl, hS4⟩
          have hS5 := hS4.below ((Below.refl w4.heap.size w4).alloc (Nat.le_refl _) (.cells #[.int .i64 q0, .int .i64 q1, .int .i64 q2, .int .i64 q3] 30))
          have c5 := hS5.cells.2.2.2.1
          have hg2 := HG2.out _ hS5
          clear hg1 HG2 c3 HDlt
          have c5' := c5
          rw [World.cell?_alloc_lt _ _ _ (by exact hS4.lt)] at c5'
          have hD4 : Db < w4.heap.size := hS4.lt
          clear c5 hS4
          go_wp2_with fail
          refine hg2.mono ?_
          rintro y w6 ⟨rfl, hS6, hb6⟩
          have hS7 := hS6.below ((Below.refl w6.heap.size w6).alloc (Nat.le_refl _) (.cells #[.int .i64 q0, .int .i64 q1, .int .i64 q2, .int .i64 q3] 30))
          have a0 : w6.cell? ⟨w4.heap.size, 0, none⟩ = some (.int .i64 q0) := by rw [hb6.cell (by simp), World.cell?_alloc_new]; rfl
          have a1 : w6.cell? ⟨w4.heap.size, 1, none⟩ = some (.int .i64 q1) := by rw [hb6.cell (by simp), World.cell?_alloc_new]; rfl
          have a2 : w6.cell? ⟨w4.heap.size, 2, none⟩ = some (.int .i64 q2) := by rw [hb6.cell (by simp), World.cell?_alloc_new]; rfl
          have a3 : w6.cell? ⟨w4.heap.size, 3, none⟩ = some (.int .i64 q3) := by rw [hb6.cell (by simp), World.cell?_alloc_new]; rfl
          have hlt6 : w4.heap.size < w6.heap.size := by have := hb6.size; rw [World.size_alloc] at this; omega
          have HS7 := Lib.hid hS7
          clear hg2 c5' hS6 hb6 hS5 hS7 hD4
          go_wp2
          go_roundw
          case rel => exact ⟨s + 1, by omega, by go_num, HS7.out⟩
          case measure => simp [intOf]; omega
        · obtain ⟨H2, hT2⟩ := hS.two
          clear hS
          go_wp2
          go_roundw
          case rel => exact ⟨k + 1, by omega, by omega, by go_num, M1, H2, hT2, by have := HM1.out; omega⟩
          case measure => simp [intOf]; omega
    · obtain ⟨M, H, hT, _⟩ := hIr
      have hbel := hT.bel
      clear hl hT
      have hstop : (len ≤ k) ∨ (k < len ∧ 150 ≤ k) := by omega
      rcases hstop with hs | ⟨hs1, hs2⟩
      all_goals
        go_wp2_with fail
        refine (awake_any _).mono ?_
        rintro y w8 ⟨rfl, hb9⟩
        go_wp2
        go_ret
        exact ⟨rfl, hbel.trans (hb9.mono hbel.size)⟩

end Go.Proofs.Ytpclhecpfjkehaa
