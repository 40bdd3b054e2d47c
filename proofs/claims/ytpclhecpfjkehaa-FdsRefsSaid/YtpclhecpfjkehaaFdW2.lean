/- fds: pointers compared; rows; the library's Index and Contains at files; free. -/
import Derived.Test.YtpclhecpfjkehaaFdW1
import Derived.LaidEqlPtr
import Derived.ChangeKeysEq
namespace Go.Proofs.Ytpclhecpfjkehaa
open Go.RowKit

theorem fptr_nil (a : Option Addr) (d : Nat) (w : World) : (Op.equalIn (d + 1) 115 (.pointer a) (.pointer none)).run Try.prog w = .ok a.isNone w := by
  cases a <;> simp [Op.equalIn, run_underlying Try.underlying115]

theorem fptr_nil2 (a : Option Addr) (d : Nat) (w : World) : (Op.equalIn (d + 1) 115 (.pointer none) (.pointer a)).run Try.prog w = .ok a.isNone w := by
  cases a <;> simp [Op.equalIn, run_underlying Try.underlying115]

theorem feql_nil (a : Option Addr) (w : World) : (binOp .eql 115 (.pointer a) (.pointer none)).run Try.prog w = .ok (.bool a.isNone) w := by
  have h := fptr_nil a 9999 w
  simp only [binOp]
  simp [Op.equal, Op.maxDepth, h]

theorem feql_nil2 (a : Option Addr) (w : World) : (binOp .eql 115 (.pointer none) (.pointer a)).run Try.prog w = .ok (.bool a.isNone) w := by
  have h := fptr_nil2 a 9999 w
  simp only [binOp]
  simp [Op.equal, Op.maxDepth, h]

theorem fileInfo : (Try.prog.info? 56).map (fun i => (i.zero, i.size, i.bytes)) = some (some (.agg #[.int .i64 0, .int .i64 0, .int .i64 0, .bool false, .int .i64 0]), 5, 40) := by kernel_rfl
theorem fptrInfo : (Try.prog.info? 115).map (fun i => (i.zero, i.size, i.bytes)) = some (some (.pointer none), 1, 8) := by kernel_rfl

theorem feql_same (a : Addr) (w : World) : (binOp .eql 115 (.pointer (some a)) (.pointer (some a))).run Try.prog w = .ok (.bool true) w := by
  obtain ⟨i0, hi, hz0, hz1, hz2⟩ := info_parts fileInfo
  exact run_eql_ptr_same w a Try.underlying115 hi

theorem feql_other (j k : Nat) (w : World) (ca cb : Array Value) (ta tb : TypeId) (hne : j ≠ k) (ha : w.heap[j]? = some (.cells ca ta (0, 0))) (hb : w.heap[k]? = some (.cells cb tb (0, 0))) :
    (binOp .eql 115 (.pointer (some ⟨j, 0, none⟩)) (.pointer (some ⟨k, 0, none⟩))).run Try.prog w = .ok (.bool false) w := by
  obtain ⟨i0, hi, hz0, hz1, hz2⟩ := info_parts fileInfo
  exact run_eql_ptr_other w Try.underlying115 hi (by rw [hz1]; decide) (fun h => hne (congrArg Addr.block h)) ha hb

/-- Two files' pointers compared. -/
theorem FRep.eql {w : World} {b : Nat} {M : FM} {f : Nat → Nat} (h : FRep w b M f) (x y : Option Nat) (hx : ∀ n, x = some n → n < M.x.length) (hy : ∀ n, y = some n → n < M.x.length) :
    (binOp .eql 115 (.pointer (ptrF f x)) (.pointer (ptrF f y))).run Try.prog w = .ok (.bool (decide (x = y))) w := by
  cases x with
  | none =>
    have := feql_nil2 (ptrF f y) w
    show (binOp .eql 115 (.pointer none) (.pointer (ptrF f y))).run Try.prog w = _
    rw [this]
    cases y <;> simp [ptrF]
  | some n =>
    cases y with
    | none =>
      have := feql_nil (ptrF f (some n)) w
      show (binOp .eql 115 (.pointer (ptrF f (some n))) (.pointer none)).run Try.prog w = _
      rw [this]
      simp [ptrF]
    | some m =>
      have h1 := h.file n (hx n rfl)
      have h2 := h.file m (hy m rfl)
      by_cases e : n = m
      · subst e
        show (binOp .eql 115 (.pointer (some ⟨f n, 0, none⟩)) (.pointer (some ⟨f n, 0, none⟩))).run Try.prog w = _
        rw [feql_same]; simp
      · show (binOp .eql 115 (.pointer (some ⟨f n, 0, none⟩)) (.pointer (some ⟨f m, 0, none⟩))).run Try.prog w = _
        rw [feql_other (f n) (f m) w _ _ _ _ (fun e' => e (h.inj n m (hx n rfl) (hy m rfl) e')) h1 h2]
        simp [e]

theorem eqItems_nil (d : Nat) (xs ys : Array Value) (P : Nat → Option Addr) (w : World) : ∀ is : List Nat, (∀ i ∈ is, xs[i]? = some (.pointer (P i))) → (∀ i ∈ is, ys[i]? = some (.pointer none)) →
    (Op.eqItems (d + 1) 115 1 xs ys is).run Try.prog w = .ok (is.all fun i => (P i).isNone) w
  | [], _, _ => by simp [Op.eqItems]
  | i :: is, hx, hy => by
    have ih := eqItems_nil d xs ys P w is (fun j hj => hx j (by simp [hj])) (fun j hj => hy j (by simp [hj]))
    have h1 := hx i (by simp)
    have h2 := hy i (by simp)
    have p1 : (part 115 xs (i * 1)).run Try.prog w = .ok (.pointer (P i)) w := by
      simp [part, isAgg, run_underlying Try.underlying115, h1]
    have p2 : (part 115 ys (i * 1)).run Try.prog w = .ok (.pointer none) w := by
      simp [part, isAgg, run_underlying Try.underlying115, h2]
    simp only [Op.eqItems, Sem.run_bind, p1, p2, Result.andThen_ok, fptr_nil, List.all_cons]
    cases hb : (P i).isNone
    · simp
    · simpa using ih

set_option maxRecDepth 100000 in
theorem row_eq (p : Nat → Option Addr) (w : World) :
    (binOp .eql 117 (.agg #[.pointer (p 0), .pointer (p 1), .pointer (p 2), .pointer (p 3), .pointer (p 4), .pointer (p 5)]) (.agg #[.pointer none, .pointer none, .pointer none, .pointer none, .pointer none, .pointer none])).run Try.prog w = .ok (.bool ((List.range 6).all fun i => (p i).isNone)) w := by
  obtain ⟨i0, hi, hz0, hz1, hz2⟩ := info_parts fptrInfo
  have hc : Try.prog.cellsOf 115 = 1 := by kernel_rfl
  rw [run_eql_struct, run_equalIn_array w 9999 _ _ Try.underlying117 hi, hc, eqItems_nil 9998 _ _ p]
  · rfl
  · intro i h
    have := List.mem_range.1 h
    rcases (by omega : i = 0 ∨ i = 1 ∨ i = 2 ∨ i = 3 ∨ i = 4 ∨ i = 5) with rfl | rfl | rfl | rfl | rfl | rfl <;> rfl
  · intro i h
    have := List.mem_range.1 h
    rcases (by omega : i = 0 ∨ i = 1 ∨ i = 2 ∨ i = 3 ∨ i = 4 ∨ i = 5) with rfl | rfl | rfl | rfl | rfl | rfl <;> rfl

/-- The place of the first that is so; -1: none. -/
def FirstAt (E : Nat → Bool) (n : Nat) (i : Int) : Prop := (i = -1 ∧ ∀ j, j < n → E j = false) ∨ ∃ k : Nat, k < n ∧ i = k ∧ E k = true ∧ ∀ j, j < k → E j = false

theorem findex (A : Option Addr) (n cap : Nat) (q : Option Addr) (P : Nat → Option Addr) (E : Nat → Bool) (w : World) (hn : n ≤ 1000)
    (hcell : ∀ j, j < n → ∃ g o, A = some ⟨g, o, none⟩ ∧ w.cell? ⟨g, o + j, none⟩ = some (.pointer (P j)))
    (heq : ∀ j, j < n → (binOp .eql 115 (.pointer q) (.pointer (P j))).run Try.prog w = .ok (.bool (E j)) w) :
    Calls Try.prog 68 #[.slice A n cap, .pointer q] w fun r w' => (∃ i : Int, r = .returned (.int .i64 i) ∧ FirstAt E n i) ∧ w = w' := by
  go_enter Try.func68, Try.ntmps68
  go_wp2
  go_loop [8] (fun i => ∃ k : Nat, k ≤ n ∧ i = .int .i64 k ∧ ∀ j, j < k → E j = false) (fun i => n - (intOf i).toNat)
  case atStart => exact ⟨0, Nat.zero_le _, rfl, fun j hj => by omega⟩
  case round =>
    obtain ⟨k, hk, rfl, hno⟩ := hrel
    have HN := Lib.hid hno
    clear hno
    by_cases hlt : k < n
    · obtain ⟨g, o, rfl, hc⟩ := hcell k hlt
      have he := heq k hlt
      obtain ⟨e, hee⟩ : ∃ e, e = E k := ⟨_, rfl⟩
      obtain ⟨p, hp⟩ : ∃ p, p = P k := ⟨_, rfl⟩
      rw [← hp] at hc he
      rw [← hee] at he
      have HE := Lib.hid hee
      clear hcell heq hee hp
      cases e with
      | false =>
        go_wp2
        go_round
        case rel =>
          refine ⟨k + 1, by omega, by go_num, fun j hj => ?_⟩
          by_cases hjk : j = k
          · subst hjk; exact HE.out.symm
          · exact HN.out j (by omega)
        case measure => simp [intOf]; omega
      | true =>
        go_wp2
        go_ret
        exact ⟨⟨k, rfl, .inr ⟨k, hlt, rfl, HE.out.symm, HN.out⟩⟩, rfl⟩
    · have hkn : k = n := by omega
      subst hkn
      clear hcell heq
      go_wp2
      go_ret
      exact ⟨⟨-1, rfl, .inl ⟨rfl, HN.out⟩⟩, rfl⟩

theorem fcontains (A : Option Addr) (n cap : Nat) (q : Option Addr) (P : Nat → Option Addr) (E : Nat → Bool) (w : World) (hn : n ≤ 1000)
    (hcell : ∀ j, j < n → ∃ g o, A = some ⟨g, o, none⟩ ∧ w.cell? ⟨g, o + j, none⟩ = some (.pointer (P j)))
    (heq : ∀ j, j < n → (binOp .eql 115 (.pointer q) (.pointer (P j))).run Try.prog w = .ok (.bool (E j)) w) :
    Calls Try.prog 92 #[.slice A n cap, .pointer q] w fun r w' => r = .returned (.bool ((List.range n).any E)) ∧ w = w' := by
  have h := findex A n cap q P E w hn hcell heq
  clear hcell heq
  go_enter Try.func92, Try.ntmps92
  go_wp2_with fail
  refine h.mono ?_
  rintro r w1 ⟨⟨i, rfl, hi⟩, rfl⟩
  have hd : decide (0 ≤ i) = (List.range n).any E := by
    rcases hi with ⟨rfl, h1⟩ | ⟨k, hk, rfl, h1, _⟩
    · have : (List.range n).any E = false := by
        rw [List.any_eq_false]
        intro j hj
        rw [h1 j (List.mem_range.1 hj)]; simp
      rw [this]; rfl
    · have : (List.range n).any E = true := List.any_eq_true.2 ⟨k, List.mem_range.2 hk, h1⟩
      rw [this]; simp
  have HD := Lib.hid hd
  clear hi hd h
  go_wp2
  go_ret
  exact ⟨ret_bool HD.out, rfl⟩

theorem ffree {b : Nat} {M : FM} {f : Nat → Nat} {w : World} (h : FRep w b M f) (p : Int) (hp : pidB p = true) :
    Calls Try.prog 70 #[.pointer (some ⟨b, 0, none⟩), .int .i64 p] w fun r w' => r = .returned (.int .i64 (optI (M.freeN p))) ∧ w = w' := by
  simp [pidB] at hp
  obtain ⟨q, rfl⟩ : ∃ q : Nat, p = (q : Int) + 1 := ⟨(p - 1).toNat, by omega⟩
  have hq : q < 8 := by omega
  have hi : ∀ j : Nat, idxF ((q : Int) + 1) j = q * 6 + j := fun j => by unfold idxF; omega
  have hc := findex (some ⟨b, q * 6, none⟩) 6 6 none (fun j => ptrF f (M.get (q * 6 + j))) (fun j => (M.get (q * 6 + j)).isNone) w (by omega)
    (fun j hj => ⟨b, q * 6, rfl, (h.cell (q * 6 + j) (by omega)).1⟩) (fun j hj => by rw [feql_nil2]; cases M.get (q * 6 + j) <;> rfl)
  have hfin : ∀ i : Int, FirstAt (fun j => (M.get (q * 6 + j)).isNone) 6 i → i = optI (M.freeN ((q : Int) + 1)) := by
    rintro i (⟨rfl, h1⟩ | ⟨k, hk, rfl, h1, h2⟩)
    · rw [FM.freeN_none (fun j hj => by rw [hi]; have := h1 j hj; simp at this; simpa [Option.isSome_iff_ne_none] using this)]; rfl
    · rw [FM.freeN_of hk (by rw [hi]; simpa using h1) (fun j hj => by rw [hi]; have := h2 j hj; simp at this; simpa [Option.isSome_iff_ne_none] using this)]; rfl
  have HF := Lib.hid hfin
  clear hfin h hi hp
  go_enter Try.func70, Try.ntmps70
  go_wp2_with fail
  refine hc.mono ?_
  rintro r w1 ⟨⟨i, rfl, hi⟩, rfl⟩
  have HI := Lib.hid (HF.out i hi)
  clear hc hi
  go_wp2
  go_ret
  exact ⟨ret_int HI.out, rfl⟩

end Go.Proofs.Ytpclhecpfjkehaa
