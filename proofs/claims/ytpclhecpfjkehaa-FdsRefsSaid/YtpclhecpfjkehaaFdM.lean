/- Descriptors and open files as plain data (chapter 18): lists and whole numbers, no program and no memory. -/
import Derived.WalkKit
namespace Go.Proofs.Ytpclhecpfjkehaa

structure FD where
  kind : Int
  id : Int
  off : Int
  app : Bool

/-- t: what each of the 48 descriptors names (process p's d-th at (p-1)*6+d): a file's number; x: the files. -/
structure FM where
  t : List (Option Nat)
  x : List FD

def FD.zero : FD := ⟨0, 0, 0, false⟩

def FM.get (M : FM) (i : Nat) : Option Nat := (M.t[i]?).getD none
def FM.fd (M : FM) (n : Nat) : FD := (M.x[n]?).getD FD.zero
def FM.refs (M : FM) (n : Nat) : Int := ((M.t.count (some n) : Nat) : Int)

def pidB (p : Int) : Bool := decide (1 ≤ p) && decide (p ≤ 8)
def fdB (f : Int) : Bool := decide (0 ≤ f) && decide (f < 6)
def idxF (p f : Int) : Nat := ((p - 1) * 6 + f).toNat

def FM.file (M : FM) (p f : Int) : Option Nat := if pidB p && fdB f then M.get (idxF p f) else none

def FM.freeN (M : FM) (p : Int) : Option Nat := (List.range 6).find? fun j : Nat => (M.get (idxF p j)).isNone
def optI : Option Nat → Int
  | none => -1
  | some j => (j : Int)

def addF (acc : List Nat) : Option Nat → List Nat
  | none => acc
  | some n => if n ∈ acc then acc else acc ++ [n]

def filesOf (t : List (Option Nat)) : List Nat := t.foldl addF []
def FM.files (M : FM) : List Nat := filesOf M.t

def FM.put (M : FM) (i : Nat) (v : Option Nat) : FM := ⟨M.t.set i v, M.x⟩

def FM.open (M : FM) (p : Int) (X : FD) : (Int × Int) × FM :=
  if pidB p then
    match M.freeN p with
    | none => ((0, 24), M)
    | some d => if 32 ≤ M.files.length then ((0, 24), M) else (((d : Int), 0), ⟨M.t.set (idxF p d) (some M.x.length), M.x ++ [X]⟩)
  else ((0, 9), M)

def FM.dup (M : FM) (p f : Int) : (Int × Int) × FM :=
  match M.file p f with
  | none => ((0, 9), M)
  | some n =>
    match M.freeN p with
    | none => ((0, 24), M)
    | some d => (((d : Int), 0), M.put (idxF p d) (some n))

/-- A file as it is told: its record and how many name it. -/
structure FT where
  x : FD
  refs : Int

def FT.zero : FT := ⟨FD.zero, 0⟩

def FM.tell (M : FM) (n : Nat) : FT := ⟨M.fd n, M.refs n⟩

def FM.close (M : FM) (p f : Int) : (FT × Int) × FM :=
  match M.file p f with
  | none => ((FT.zero, 9), M)
  | some n => (((M.put (idxF p f) none).tell n, 0), M.put (idxF p f) none)

def FM.at (M : FM) (p f : Int) : FT × Int :=
  match M.file p f with
  | none => (FT.zero, 9)
  | some n => (M.tell n, 0)

def FM.seek (M : FM) (p f o : Int) : Int × FM :=
  match M.file p f with
  | none => (9, M)
  | some n => if o < 0 then (22, M) else (0, ⟨M.t, M.x.set n { M.fd n with off := o }⟩)

def FM.fork1 (M : FM) (p c f : Int) : FM :=
  match M.file p f with
  | none => M
  | some n => if pidB c && (M.get (idxF c f)).isNone then M.put (idxF c f) (some n) else M

def FM.forkTo (M : FM) (p c : Int) : Nat → FM
  | 0 => M
  | k + 1 => (M.forkTo p c k).fork1 p c k

def FM.fork (M : FM) (p c : Int) : FM := if p = c then M else M.forkTo p c 6

def FM.goneTo (M : FM) (p : Int) : Nat → List FT × FM
  | 0 => ([], M)
  | k + 1 =>
    let R := M.goneTo p k
    let C := R.2.close p k
    (if C.1.2 = 0 then R.1 ++ [C.1.1] else R.1, C.2)

def FM.gone (M : FM) (p : Int) : List FT × FM := M.goneTo p 6

def FM.left (M : FM) (p : Int) : Int := if pidB p then (((List.range 6).filter fun j : Nat => (M.get (idxF p j)).isNone).length : Nat) else 0

def FM.empty : FM := ⟨List.replicate 48 none, []⟩

structure FM.WF (M : FM) : Prop where
  len : M.t.length = 48
  lt : ∀ n, some n ∈ M.t → n < M.x.length

theorem FM.WF.ofEmpty : FM.empty.WF := ⟨by simp [FM.empty], fun n h => by simp [FM.empty] at h⟩

theorem FM.get_lt {M : FM} (hw : M.WF) {i n : Nat} (h : M.get i = some n) : n < M.x.length := by
  unfold FM.get at h
  cases hi : M.t[i]? with
  | none => rw [hi] at h; cases h
  | some v =>
    rw [hi] at h
    have hv : v = some n := h
    subst hv
    exact hw.lt n (List.mem_of_getElem? hi)

theorem FM.get_at {M : FM} (hw : M.WF) {i : Nat} (hi : i < 48) : M.t[i]? = some (M.get i) := by
  unfold FM.get
  have : i < M.t.length := by rw [hw.len]; exact hi
  rw [List.getElem?_eq_getElem this]
  rfl

theorem FM.get_out {M : FM} (hw : M.WF) {i : Nat} (hi : 48 ≤ i) : M.get i = none := by
  unfold FM.get
  rw [List.getElem?_eq_none (by rw [hw.len]; exact hi)]
  rfl

theorem FM.WF.put {M : FM} (hw : M.WF) (i : Nat) {v : Option Nat} (hv : ∀ n, v = some n → n < M.x.length) : (M.put i v).WF := by
  refine ⟨by unfold FM.put; simp [hw.len], fun n hn => ?_⟩
  unfold FM.put at hn ⊢
  rcases List.mem_or_eq_of_mem_set hn with h | h
  · exact hw.lt n h
  · exact hv n h.symm

theorem FM.get_put {M : FM} (hw : M.WF) {i j : Nat} (v : Option Nat) (hi : i < 48) : (M.put i v).get j = if i = j then v else M.get j := by
  unfold FM.get FM.put
  simp only [List.getElem?_set]
  by_cases h : i = j
  · subst h; rw [if_pos rfl, if_pos rfl, if_pos (by rw [hw.len]; exact hi)]; rfl
  · rw [if_neg h, if_neg h]

theorem FM.refs_nonneg (M : FM) (n : Nat) : 0 ≤ M.refs n := by unfold FM.refs; omega

theorem FM.refs_le {M : FM} (hw : M.WF) (n : Nat) : M.refs n ≤ 48 := by
  unfold FM.refs
  have := List.count_le_length (a := some n) (l := M.t)
  rw [hw.len] at this
  omega

theorem FM.refs_put {M : FM} (hw : M.WF) {i : Nat} (v : Option Nat) (hi : i < 48) (n : Nat) :
    (M.put i v).refs n = M.refs n - (if M.get i = some n then 1 else 0) + (if v = some n then 1 else 0) := by
  have hl : i < M.t.length := by rw [hw.len]; exact hi
  have hg : M.t[i] = M.get i := by
    have := FM.get_at hw hi
    rw [List.getElem?_eq_getElem hl] at this
    injection this
  unfold FM.refs FM.put
  simp only
  rw [List.count_set hl, hg]
  have hpos : M.get i = some n → 0 < M.t.count (some n) := fun h => List.count_pos_iff.2 (h ▸ hg ▸ List.getElem_mem hl)
  by_cases h1 : M.get i = some n <;> by_cases h2 : v = some n <;> simp [h1, h2]
  · have := hpos h1; omega
  · have := hpos h1; omega

theorem pidB_idx {p f : Int} (hp : pidB p = true) (hf : fdB f = true) : idxF p f < 48 := by
  simp [pidB, fdB] at hp hf
  unfold idxF
  omega

theorem FM.file_some {M : FM} {p f : Int} {n : Nat} (h : M.file p f = some n) : pidB p = true ∧ fdB f = true ∧ M.get (idxF p f) = some n := by
  unfold FM.file at h
  by_cases hc : (pidB p && fdB f) = true
  · rw [if_pos hc] at h
    rw [Bool.and_eq_true] at hc
    exact ⟨hc.1, hc.2, h⟩
  · rw [if_neg hc] at h; cases h

theorem FM.freeN_some {M : FM} {p : Int} {d : Nat} (h : M.freeN p = some d) : d < 6 ∧ M.get (idxF p d) = none := by
  unfold FM.freeN at h
  have h1 := List.mem_of_find?_eq_some h
  have h2 := List.find?_some h
  exact ⟨List.mem_range.1 h1, by simpa using h2⟩

theorem FM.freeN_of {M : FM} {p : Int} {k : Nat} (hk : k < 6) (h0 : M.get (idxF p k) = none) (h1 : ∀ j : Nat, j < k → M.get (idxF p j) ≠ none) : M.freeN p = some k := by
  unfold FM.freeN
  rw [List.find?_eq_some_iff_getElem]
  refine ⟨by simp [h0], k, by simpa using hk, by simp, fun j hj => ?_⟩
  have := h1 j hj
  simp [Option.isSome_iff_ne_none, this]

theorem FM.freeN_none {M : FM} {p : Int} (h1 : ∀ j : Nat, j < 6 → M.get (idxF p j) ≠ none) : M.freeN p = none := by
  unfold FM.freeN
  rw [List.find?_eq_none]
  intro j hj
  have := h1 j (List.mem_range.1 hj)
  simp [this]

/-! ### files -/
theorem addF_nodup {acc : List Nat} (h : acc.Nodup) (o : Option Nat) : (addF acc o).Nodup := by
  unfold addF
  split
  · exact h
  · split
    · exact h
    · rename_i n hn
      rw [List.nodup_append]
      refine ⟨h, by simp, fun a ha b hb => ?_⟩
      simp only [List.mem_singleton] at hb
      subst hb
      intro e
      subst e
      exact hn ha

theorem mem_addF {acc : List Nat} {o : Option Nat} {m : Nat} : m ∈ addF acc o ↔ m ∈ acc ∨ o = some m := by
  unfold addF
  split
  · simp
  · split
    · rename_i n hn
      simp only [Option.some.injEq]
      constructor
      · exact .inl
      · rintro (h | rfl)
        · exact h
        · exact hn
    · simp [eq_comm]

theorem foldl_addF_nodup : ∀ (t : List (Option Nat)) (acc : List Nat), acc.Nodup → (t.foldl addF acc).Nodup
  | [], _, h => h
  | o :: t, _, h => foldl_addF_nodup t _ (addF_nodup h o)

theorem mem_foldl_addF : ∀ (t : List (Option Nat)) (acc : List Nat) (m : Nat), m ∈ t.foldl addF acc ↔ m ∈ acc ∨ some m ∈ t
  | [], _, m => by simp
  | o :: t, acc, m => by
    rw [List.foldl_cons, mem_foldl_addF t, mem_addF, List.mem_cons]
    constructor
    · rintro ((h | h) | h)
      · exact .inl h
      · exact .inr (.inl h.symm)
      · exact .inr (.inr h)
    · rintro (h | h | h)
      · exact .inl (.inl h)
      · exact .inl (.inr h.symm)
      · exact .inr h

theorem filesOf_nodup (t : List (Option Nat)) : (filesOf t).Nodup := foldl_addF_nodup t [] (by simp)
theorem mem_filesOf {t : List (Option Nat)} {m : Nat} : m ∈ filesOf t ↔ some m ∈ t := by unfold filesOf; rw [mem_foldl_addF]; simp

theorem filesOf_len (t : List (Option Nat)) : (filesOf t).length ≤ t.length := by
  have h := List.Nodup.length_le_of_subset (l₁ := (filesOf t).map some) (l₂ := t) (by
    rw [List.Nodup, List.pairwise_map]
    exact (filesOf_nodup t).imp fun h e => h (by injection e)) (by
    intro x hx
    obtain ⟨m, hm, rfl⟩ := List.mem_map.1 hx
    exact mem_filesOf.1 hm)
  simpa using h

theorem filesOf_snoc (t : List (Option Nat)) (o : Option Nat) : filesOf (t ++ [o]) = addF (filesOf t) o := by
  unfold filesOf; rw [List.foldl_append]; rfl

end Go.Proofs.Ytpclhecpfjkehaa
