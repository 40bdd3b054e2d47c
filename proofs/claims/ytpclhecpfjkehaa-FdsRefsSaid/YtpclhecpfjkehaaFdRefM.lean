/- Law FdsRefs: plain part. Files' ids ascend; counting descriptors by id counts each file's references. -/
import Derived.Test.YtpclhecpfjkehaaFdL0
namespace Go.Proofs.Ytpclhecpfjkehaa
open Go.RowKit

theorem dup_x (M : FM) (p d : Int) : (M.dup p d).2.x = M.x := by
  unfold FM.dup
  split
  · rfl
  · split <;> rfl

theorem close_x (M : FM) (p d : Int) : (M.close p d).2.x = M.x := by
  unfold FM.close
  split <;> rfl

theorem fork1_x (M : FM) (p c f : Int) : (M.fork1 p c f).x = M.x := by
  unfold FM.fork1
  split
  · rfl
  · split <;> rfl

theorem forkTo_x (M : FM) (p c : Int) : ∀ k, (M.forkTo p c k).x = M.x
  | 0 => rfl
  | k + 1 => by
    show ((M.forkTo p c k).fork1 p c k).x = M.x
    rw [fork1_x, forkTo_x M p c k]

theorem fork_x (M : FM) (p c : Int) : (M.fork p c).x = M.x := by
  unfold FM.fork
  split
  · rfl
  · exact forkTo_x M p c 6

theorem goneTo_x (M : FM) (p : Int) : ∀ k, (M.goneTo p k).2.x = M.x
  | 0 => rfl
  | k + 1 => by
    show ((M.goneTo p k).2.close p k).2.x = M.x
    rw [close_x, goneTo_x M p k]

/-- The files' ids ascend, from 1 to id. -/
structure IdsUp (M : FM) (id : Int) : Prop where
  up : ∀ n m, n < m → m < M.x.length → (M.fd n).id < (M.fd m).id
  lo : ∀ n, n < M.x.length → 1 ≤ (M.fd n).id ∧ (M.fd n).id ≤ id

theorem IdsUp.keep {M M' : FM} {id : Int} (h : IdsUp M id) (hx : M'.x = M.x) : IdsUp M' id := by
  have hf : ∀ n, M'.fd n = M.fd n := fun n => by unfold FM.fd; rw [hx]
  exact ⟨fun n m a b => by rw [hf, hf]; exact h.up n m a (by rw [← hx]; exact b), fun n a => by rw [hf]; exact h.lo n (by rw [← hx]; exact a)⟩

theorem IdsUp.mono {M : FM} {id id' : Int} (h : IdsUp M id) (hi : id ≤ id') : IdsUp M id' :=
  ⟨h.up, fun n hn => by have := h.lo n hn; omega⟩

theorem IdsUp.open {M : FM} {id : Int} (h : IdsUp M id) (h0 : 0 ≤ id) (p : Int) (k o : Int) (a : Bool) : IdsUp (M.open p ⟨k, id + 1, o, a⟩).2 (id + 1) := by
  unfold FM.open
  split
  · split
    · exact h.mono (by omega)
    · split
      · exact h.mono (by omega)
      · have hf : ∀ (t : List (Option Nat)) n, n < M.x.length → (⟨t, M.x ++ [⟨k, id + 1, o, a⟩]⟩ : FM).fd n = M.fd n := fun t n hn => by
          unfold FM.fd
          simp only [List.getElem?_append_left hn]
        have hl : ∀ (t : List (Option Nat)), (⟨t, M.x ++ [⟨k, id + 1, o, a⟩]⟩ : FM).fd M.x.length = ⟨k, id + 1, o, a⟩ := fun t => by
          unfold FM.fd
          simp
        refine ⟨fun n m hnm hm => ?_, fun n hn => ?_⟩
        · have hm' : m < M.x.length + 1 := by simpa using hm
          rw [hf _ n (by omega)]
          by_cases he : m = M.x.length
          · subst he
            rw [hl]
            have := h.lo n hnm
            show (M.fd n).id < id + 1
            omega
          · rw [hf _ m (by omega)]
            exact h.up n m hnm (by omega)
        · have hn' : n < M.x.length + 1 := by simpa using hn
          by_cases he : n = M.x.length
          · subst he
            rw [hl]
            show 1 ≤ id + 1 ∧ id + 1 ≤ id + 1
            omega
          · rw [hf _ n (by omega)]
            have := h.lo n (by omega)
            omega
  · exact h.mono (by omega)

theorem IdsUp.inj {M : FM} {id : Int} (h : IdsUp M id) {n m : Nat} (hn : n < M.x.length) (hm : m < M.x.length) (he : (M.fd n).id = (M.fd m).id) : n = m := by
  rcases Nat.lt_trichotomy n m with h1 | h1 | h1
  · have := h.up n m h1 hm; omega
  · exact h1
  · have := h.up m n h1 hn; omega

def idIs (M : FM) (v : Int) : Option Nat → Bool
  | none => false
  | some n => decide ((M.fd n).id = v)

/-- How many of the first k descriptors name a file of id v. -/
def cntF (M : FM) (k : Nat) (v : Int) : Nat := (M.t.take k).countP (idIs M v)

theorem cntF_zero (M : FM) (v : Int) : cntF M 0 v = 0 := by simp [cntF]

theorem cntF_succ {M : FM} (hw : M.WF) {k : Nat} (hk : k < 48) (v : Int) : cntF M (k + 1) v = cntF M k v + if idIs M v (M.get k) then 1 else 0 := by
  unfold cntF
  rw [take_get hw hk, List.countP_append, List.countP_singleton]

theorem cntF_le {M : FM} (hw : M.WF) (k : Nat) (v : Int) : cntF M k v ≤ 48 := by
  unfold cntF
  have h1 := List.countP_le_length (p := idIs M v) (l := M.t.take k)
  rw [List.length_take, hw.len] at h1
  omega

theorem cntF_refs {M : FM} {id : Int} (hw : M.WF) (h : IdsUp M id) {n : Nat} (hn : n < M.x.length) : ((cntF M 48 (M.fd n).id : Nat) : Int) = M.refs n := by
  unfold cntF FM.refs
  rw [List.take_of_length_le (by rw [hw.len]; omega)]
  congr 1
  rw [List.count]
  apply List.countP_congr
  intro o ho
  cases o with
  | none => simp [idIs]
  | some m =>
    have hm := hw.lt m ho
    simp only [idIs, decide_eq_true_eq, beq_iff_eq, Option.some.injEq]
    exact ⟨fun e => h.inj hm hn e, fun e => by rw [e]⟩

end Go.Proofs.Ytpclhecpfjkehaa
