/- Arguments that are structs of numbers and bools, and slices of such: what is known of their cells. -/
import Derived.Test.YtpclhecpfjkehaaArr
import Derived.ProofKit
import Derived.Deep.Slices
import Derived.ChangeOld
namespace Go.Proofs.Ytpclhecpfjkehaa
open Go.ChangeShapes Go.WideShapes Go.ChangeAt Go.RowKit Go.Deep

inductive Leaf where
  | int (k : IntKind)
  | bool

def Leaf.is : Leaf → Value → Prop
  | .int k, v => ∃ n : Int, v = .int k n ∧ (Lit.int k n).wf = true
  | .bool, v => ∃ b : Bool, v = .bool b

/-- The leaves of a struct's fields, each where the one before it ends. -/
def flatF (g : TypeId → Option (List Leaf)) (c : TypeId → Nat) : List Field → Nat → Option (List Leaf)
  | [], _ => some []
  | f :: fs, off =>
    match g f.type with
    | none => none
    | some ks => if f.offset = off ∧ c f.type = ks.length then (flatF g c fs (off + ks.length)).map (ks ++ ·) else none

def flatK (P : Program) : Nat → TypeId → Option (List Leaf)
  | 0, _ => none
  | n + 1, t =>
    match P.underlying t with
    | some (.int k) => some [.int k]
    | some .bool => some [.bool]
    | some (.struct fs) => flatF (flatK P n) P.cellsOf fs.toList 0
    | _ => none

section
variable {H : Type} {enc : TypeId × Value → H} {P : Program} {w : World} {base : Nat} {spare : Nat → Bool} {held : Bool}

theorem flatF_sound {g : TypeId → Option (List Leaf)} {cs : List Value}
    (hg : ∀ (t : TypeId) (ks : List Leaf) (fuel : Nat) (cs : List Value) (x : DataW H × List MemPlace), g t = some ks → DataW.trod enc P w base spare held fuel t cs = some x → ∀ (i : Nat) (k : Leaf), ks[i]? = some k → ∃ v, cs[i]? = some v ∧ k.is v) :
    ∀ (fs : List Field) (off : Nat) (ks : List Leaf), flatF g P.cellsOf fs off = some ks →
      (∀ f ∈ fs, ∃ fuel y, DataW.trod enc P w base spare held fuel f.type ((cs.drop f.offset).take (P.cellsOf f.type)) = some y) →
      ∀ (i : Nat) (k : Leaf), ks[i]? = some k → ∃ v, cs[off + i]? = some v ∧ k.is v := by
  intro fs
  induction fs with
  | nil => intro off ks h _ i k hk; simp [flatF] at h; subst h; simp at hk
  | cons f fs ih =>
    intro off ks h hf i k hk
    unfold flatF at h
    split at h
    · cases h
    · rename_i k0 hk0
      split at h
      · rename_i hoff
        obtain ⟨h1, h2⟩ := hoff
        cases hr : flatF g P.cellsOf fs (off + k0.length) with
        | none => rw [hr] at h; cases h
        | some k1 =>
          rw [hr] at h
          simp only [Option.map_some, Option.some.injEq] at h
          subst h
          by_cases hi : i < k0.length
          · rw [List.getElem?_append_left hi] at hk
            obtain ⟨fuel, y, hy⟩ := hf f (by simp)
            obtain ⟨v, hv, hl⟩ := hg f.type k0 fuel _ y hk0 hy i k hk
            refine ⟨v, ?_, hl⟩
            rw [h1, h2, List.getElem?_take_of_lt hi, List.getElem?_drop] at hv
            exact hv
          · rw [List.getElem?_append_right (by omega)] at hk
            obtain ⟨v, hv, hl⟩ := ih _ _ hr (fun f' hf' => hf f' (by simp [hf'])) (i - k0.length) k hk
            refine ⟨v, ?_, hl⟩
            rw [← hv]
            congr 1
            omega
      · cases h

theorem flatK_sound : ∀ (n : Nat) (t : TypeId) (ks : List Leaf) (fuel : Nat) (cs : List Value) (x : DataW H × List MemPlace), flatK P n t = some ks →
    DataW.trod enc P w base spare held fuel t cs = some x → ∀ (i : Nat) (k : Leaf), ks[i]? = some k → ∃ v, cs[i]? = some v ∧ k.is v := by
  intro n
  induction n with
  | zero => intro t ks fuel cs x h; simp [flatK] at h
  | succ n ih =>
    intro t ks fuel cs x h hx i k hk
    unfold flatK at h
    split at h
    · rename_i kd ht
      simp only [Option.some.injEq] at h
      subst h
      obtain ⟨m, rfl, _, hwf⟩ := DataW.trod_int ht hx
      match i, hk with
      | 0, hk =>
        simp at hk
        subst hk
        exact ⟨_, rfl, m, rfl, hwf⟩
    · rename_i ht
      simp only [Option.some.injEq] at h
      subst h
      obtain ⟨b, rfl, _⟩ := DataW.trod_bool ht hx
      match i, hk with
      | 0, hk =>
        simp at hk
        subst hk
        exact ⟨_, rfl, b, rfl⟩
    · rename_i fs ht
      obtain ⟨xs, m, _, _, hl, hlen, hf⟩ := DataW.trod_struct ht hx
      have := flatF_sound (cs := cs) ih fs.toList 0 ks h (fun f hfm => by
        obtain ⟨j, hj⟩ := List.getElem?_of_mem hfm
        have hj' : fs[j]? = some f := by simpa using hj
        have h1 := hf j f hj'
        have hjl : j < fs.size := by
          rcases Nat.lt_or_ge j fs.size with h' | h'
          · exact h'
          · rw [Array.getElem?_eq_none h'] at hj'; cases hj'
        obtain ⟨y, hy⟩ : ∃ y, xs[j]? = some y := ⟨_, List.getElem?_eq_getElem (by omega)⟩
        exact ⟨m, y, by rw [h1, hy]⟩) i k hk
      simpa using this
    · cases h

/-- A struct that came in by value. -/
theorem open_flat {r : Reach} {b0 n : Nat} {t : TypeId} {fs : Array Field} {ks : List Leaf} {v : Value} {d : DataW H} {p : List MemPlace} (hs : P.underlying t = some (.struct fs)) (hk : flatK P n t = some ks) (hC : P.cellsOf t = ks.length)
    (hv : Value.okWide P w r b0 t v) (h : DataW.Trod enc P w base spare held t v d p) :
    ∃ cs : Array Value, v = .agg cs ∧ cs.size = ks.length ∧ ∀ (i : Nat) (k : Leaf), ks[i]? = some k → ∃ u, cs[i]? = some u ∧ k.is u := by
  obtain ⟨cs, rfl, hsz⟩ := okWide_struct hs hv
  obtain ⟨fuel, hf⟩ := h
  refine ⟨cs, rfl, by omega, fun i k hi => ?_⟩
  obtain ⟨u, hu, hl⟩ := flatK_sound n t ks fuel _ _ hk hf i k hi
  exact ⟨u, by simpa [Value.cells] using hu, hl⟩

/-- What is known of a slice of such structs: no elements, or the cells of each. -/
def FlatSl (w : World) (A : Option Addr) (len : Nat) (ks : List Leaf) : Prop :=
  len = 0 ∨ ∃ b o, A = some ⟨b, o, none⟩ ∧ b < w.heap.size ∧ ∀ i, i < len → ∀ (j : Nat) (k : Leaf), ks[j]? = some k → ∃ v, w.cell? ⟨b, o + (i * ks.length + j), none⟩ = some v ∧ k.is v

theorem add_cell {w : World} {a : Addr} {v : Value} (h : w.cell? a = some v) : a = ⟨a.block, a.off, none⟩ := by
  unfold World.cell? at h
  split at h
  · split at h
    · cases h
    · rename_i hs
      cases a with
      | mk b o s => cases s with
        | none => rfl
        | some _ => simp at hs
  · cases h

theorem open_flat_slice {n : Nat} {t e : TypeId} {ks : List Leaf} {A : Option Addr} {len cap : Nat} {d : DataW H} {p : List MemPlace} (hs : P.underlying t = some (.slice e)) (hk : flatK P n e = some ks) (hC : P.cellsOf e = ks.length) (hpos : 0 < ks.length)
    (h : DataW.Trod enc P w base (fun _ => true) held t (.slice A len cap) d p) : FlatSl w A len ks ∧ len ≤ maxLen := by
  obtain ⟨fuel, hf⟩ := h
  rcases open_slice hs hf with ⟨hcs, _⟩ | ⟨a, l, c, m, n', D, Pl, hcs, _, hl, hm, hmm, _, hcell⟩
  · simp [Value.cells] at hcs
    obtain ⟨_, rfl, _⟩ := hcs
    exact ⟨.inl rfl, by unfold maxLen; omega⟩
  · simp [Value.cells] at hcs
    obtain ⟨rfl, rfl, rfl⟩ := hcs
    simp only [if_true] at hmm
    subst hmm
    refine ⟨?_, by omega⟩
    by_cases h0 : len = 0
    · exact .inl h0
    right
    have hel : ∀ i, i < len → ∀ (j : Nat) (k : Leaf), ks[j]? = some k → ∃ v, w.cell? ((a.add (i * ks.length)).add j) = some v ∧ k.is v := by
      intro i hi j k hjk
      obtain ⟨cs', h1, h2⟩ := hcell i (by omega)
      rw [hC] at h1
      obtain ⟨_, h4, h5⟩ := World.cells?_some h1
      obtain ⟨v, hv, hlv⟩ := flatK_sound n e ks n' cs' _ hk h2 j k hjk
      have hj : j < ks.length := (List.getElem?_eq_some_iff.1 hjk).1
      exact ⟨v, (h5 j hj).trans hv, hlv⟩
    obtain ⟨v0, hv0, _⟩ := hel 0 (by omega) 0 _ (List.getElem?_eq_getElem hpos)
    have ha : a = ⟨a.block, a.off, none⟩ := by
      have : (a.add (0 * ks.length)).add 0 = a := by simp [Addr.add]
      rw [this] at hv0
      exact add_cell hv0
    refine ⟨a.block, a.off, by rw [← ha], ?_, ?_⟩
    · have : (a.add (0 * ks.length)).add 0 = a := by simp [Addr.add]
      rw [this] at hv0
      exact World.block_lt_of_cell? _ _ hv0
    · intro i hi j k hjk
      obtain ⟨v, hv, hlv⟩ := hel i hi j k hjk
      rw [ha, add_mk, add_mk, Nat.add_assoc] at hv
      exact ⟨v, hv, hlv⟩
end

end Go.Proofs.Ytpclhecpfjkehaa
