/- fds.Decode: the plain part. -/
import Derived.Test.YtpclhecpfjkehaaFdW8
import Derived.Test.YtpclhecpfjkehaaFdW9
import Derived.Test.YtpclhecpfjkehaaFdW10
namespace Go.Proofs.Ytpclhecpfjkehaa
open Go.RowKit

def wdA (ws : List Int) (i : Nat) : Int := (ws[i]?).getD 0

def nFiles (ws : List Int) : Nat := (wdA ws 0).toNat

def hdrOk (ws : List Int) : Bool := decide (1 ≤ ws.length) && decide (wdA ws 0 ≤ 32) && decide (ws.length = 1 + 4 * nFiles ws + 48)

def fileOk (ws : List Int) (k : Nat) : Bool :=
  decide (1 ≤ wdA ws (1 + 4 * k)) && decide (wdA ws (1 + 4 * k) ≤ 4) && decide (wdA ws (2 + 4 * k) ≤ 1048576) && decide (wdA ws (3 + 4 * k) ≤ 1048576) && decide (wdA ws (4 + 4 * k) ≤ 1)

def fileAt (ws : List Int) (k : Nat) : FD := ⟨wdA ws (1 + 4 * k), wdA ws (2 + 4 * k), wdA ws (3 + 4 * k), wdA ws (4 + 4 * k) == 1⟩

def descAt (ws : List Int) (j : Nat) : Int := wdA ws (1 + 4 * nFiles ws + j)

def descO (d : Int) : Option Nat := if d = 0 then none else some (d.toNat - 1)

def tabTo (ws : List Int) (i : Nat) : List (Option Nat) := (List.range 48).map fun j => if j < i then descO (descAt ws j) else none

def decTo (ws : List Int) (i : Nat) : FM := ⟨tabTo ws i, (List.range (nFiles ws)).map (fileAt ws)⟩

def decM (ws : List Int) : FM := decTo ws 48

def descsOk (ws : List Int) : Bool := (List.range 48).all fun j => decide (descAt ws j ≤ (nFiles ws : Nat))
def filesOk (ws : List Int) : Bool := (List.range (nFiles ws)).all (fileOk ws)

def decode (ws : List Int) : Option FM :=
  if hdrOk ws && filesOk ws && descsOk ws && eqInts (decM ws).encode ws then some (decM ws) else none

theorem decode_hdr {ws : List Int} (h : hdrOk ws = false) : decode ws = none := by unfold decode; simp [h]
theorem decode_file {ws : List Int} {k : Nat} (hk : k < nFiles ws) (h : fileOk ws k = false) : decode ws = none := by
  have : filesOk ws = false := by
    unfold filesOk
    rw [List.all_eq_false]
    exact ⟨k, List.mem_range.2 hk, by simp [h]⟩
  unfold decode; simp [this]
theorem decode_desc {ws : List Int} {j : Nat} (hj : j < 48) (h : (nFiles ws : Int) < descAt ws j) : decode ws = none := by
  have : descsOk ws = false := by
    unfold descsOk
    rw [List.all_eq_false]
    exact ⟨j, List.mem_range.2 hj, by simp; omega⟩
  unfold decode; simp [this]
theorem decode_neq {ws : List Int} (h : eqInts (decM ws).encode ws = false) : decode ws = none := by unfold decode; simp [h]
theorem decode_ok {ws : List Int} (h1 : hdrOk ws = true) (h2 : ∀ k, k < nFiles ws → fileOk ws k = true) (h3 : ∀ j, j < 48 → descAt ws j ≤ (nFiles ws : Nat)) (h4 : eqInts (decM ws).encode ws = true) : decode ws = some (decM ws) := by
  have a : filesOk ws = true := by unfold filesOk; rw [List.all_eq_true]; exact fun k hk => h2 k (List.mem_range.1 hk)
  have b : descsOk ws = true := by unfold descsOk; rw [List.all_eq_true]; exact fun j hj => by simpa using h3 j (List.mem_range.1 hj)
  unfold decode; simp [h1, a, b, h4]

/-- The words are words. -/
def WordsOk (ws : List Int) : Prop := ∀ x ∈ ws, 0 ≤ x ∧ x ≤ 18446744073709551615

theorem wdA_nonneg {ws : List Int} (h : WordsOk ws) (i : Nat) : 0 ≤ wdA ws i := by
  unfold wdA
  cases hi : ws[i]? with
  | none => simp
  | some x => exact (h x (List.mem_of_getElem? hi)).1

theorem wdA_get {ws : List Int} {i : Nat} (h : i < ws.length) : ws[i]? = some (wdA ws i) := by
  unfold wdA; rw [List.getElem?_eq_getElem h]; rfl

theorem tabTo_len (ws : List Int) (i : Nat) : (tabTo ws i).length = 48 := by simp [tabTo]

theorem decTo_get (ws : List Int) (i j : Nat) : (decTo ws i).get j = if j < 48 then (if j < i then descO (descAt ws j) else none) else none := by
  unfold FM.get decTo tabTo
  simp only [List.getElem?_map]
  by_cases hj : j < 48
  · rw [List.getElem?_eq_getElem (by simpa using hj), if_pos hj]
    simp
  · rw [List.getElem?_eq_none (by simpa using hj), if_neg hj]
    rfl

theorem decTo_x (ws : List Int) (i : Nat) : (decTo ws i).x = (List.range (nFiles ws)).map (fileAt ws) := rfl

theorem decTo_wf {ws : List Int} (hw : WordsOk ws) {i : Nat} (hd : ∀ j, j < i → descAt ws j ≤ (nFiles ws : Nat)) : (decTo ws i).WF := by
  refine ⟨tabTo_len ws i, fun n hn => ?_⟩
  have hn' : some n ∈ tabTo ws i := hn
  unfold tabTo at hn'
  rw [List.mem_map] at hn'
  obtain ⟨j, _, hj⟩ := hn'
  split at hj
  · rename_i hji
    unfold descO at hj
    split at hj
    · cases hj
    · injection hj with hj
      have := hd j hji
      have h0 : 0 ≤ descAt ws j := wdA_nonneg hw _
      rw [decTo_x]
      simp
      omega
  · cases hj

theorem decTo_succ {ws : List Int} {i : Nat} (hi : i < 48) : decTo ws (i + 1) = (decTo ws i).put i (descO (descAt ws i)) := by
  unfold decTo FM.put
  congr 1
  apply List.ext_getElem?
  intro j
  rw [List.getElem?_set]
  unfold tabTo
  simp only [List.getElem?_map]
  by_cases hj : j < 48
  · rw [List.getElem?_eq_getElem (by simpa using hj)]
    by_cases hij : i = j
    · subst hij
      simp [hi]
    · simp only [List.getElem_range, Option.map_some, if_neg hij]
      by_cases h1 : j < i
      · rw [if_pos h1, if_pos (by omega)]
      · rw [if_neg h1, if_neg (by omega)]
  · rw [List.getElem?_eq_none (by simpa using hj)]
    rw [if_neg (by omega)]
    rfl

theorem decTo_skip {ws : List Int} {i : Nat} (hi : i < 48) (h0 : descAt ws i = 0) : decTo ws (i + 1) = decTo ws i := by
  rw [decTo_succ hi, h0]
  have hg : (decTo ws i).get i = none := by rw [decTo_get, if_pos hi, if_neg (by omega)]
  unfold FM.put decTo
  congr 1
  apply List.ext_getElem?
  intro j
  rw [List.getElem?_set]
  by_cases hij : i = j
  · subst hij
    rw [if_pos rfl, if_pos (by rw [tabTo_len]; exact hi)]
    unfold tabTo
    rw [List.getElem?_map, List.getElem?_eq_getElem (by simpa using hi)]
    simp [descO]
  · rw [if_neg hij]

theorem decTo_zero (ws : List Int) : decTo ws 0 = ⟨List.replicate 48 none, (List.range (nFiles ws)).map (fileAt ws)⟩ := by
  unfold decTo
  congr 1

end Go.Proofs.Ytpclhecpfjkehaa
