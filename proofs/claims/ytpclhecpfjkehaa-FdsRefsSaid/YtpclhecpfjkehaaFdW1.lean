/- fds: how descriptors lie in memory; New, at, file. -/
import Derived.Test.YtpclhecpfjkehaaProg
import Derived.Test.YtpclhecpfjkehaaArr
import Derived.Test.YtpclhecpfjkehaaFdM
import Derived.WalkLawsBesides
import Derived.Outline
import Derived.Lib.Hide
namespace Go.Proofs.Ytpclhecpfjkehaa
open Go.RowKit

def zeroFds : Array Value := Array.replicate 48 (.pointer none)

theorem build_fds (ρ : Operand → Value) (dst : Option Tmp) (ty : TypeId) (pos : String) (after : Array Edge) (g : Option (Nat × Bool)) (w : World) :
    (execOp ρ { dst, op := .build 120 #[], type := ty, pos, after, guard := g }).run Try.prog w = .ok (.value (.agg zeroFds)) w := by kernel_rfl

set_option maxRecDepth 100000 in
theorem newF (w : World) :
    Calls Try.prog 24 #[] w fun r w' => r = .returned (.pointer (some ⟨w.heap.size, 0, none⟩)) ∧
      w.alloc (.cells zeroFds 120) = w' := by
  go_enter Try.func24, Try.ntmps24
  go_wp2_with (with_reducible refine wpList_run rfl _ _ (build_fds _ _ _ _ _ _ _) ?_)
  go_ret
  exact ⟨rfl, rfl⟩

theorem zeroFds_size : zeroFds.size = 48 := by simp [zeroFds]
theorem zeroFds_at (i : Nat) (h : i < 48) : zeroFds[i]? = some (.pointer none) := by simp [zeroFds, h]

def ptrF (f : Nat → Nat) : Option Nat → Option Addr
  | none => none
  | some n => some ⟨f n, 0, none⟩

def ftCells (T : FT) : Array Value := #[.int .i64 T.x.kind, .int .i64 T.x.id, .int .i64 T.x.off, .bool T.x.app, .int .i64 T.refs]

structure FRep (w : World) (b : Nat) (M : FM) (f : Nat → Nat) : Prop where
  tab : ∃ c, w.heap[b]? = some (.cells c 120 (0, 0)) ∧ c.size = 48 ∧ ∀ i, i < 48 → c[i]? = some (.pointer (ptrF f (M.get i)))
  file : ∀ n, n < M.x.length → w.heap[f n]? = some (.cells (ftCells (M.tell n)) 56 (0, 0))
  inj : ∀ n m, n < M.x.length → m < M.x.length → f n = f m → n = m

/-- The descriptors M lie at block b of w, in blocks of F alone. -/
structure Fds (w : World) (b : Nat) (M : FM) (F : Nat → Prop) : Prop where
  wf : M.WF
  lt : ∀ k, F k → k < w.heap.size
  rep : ∃ f, FRep w b M f ∧ F b ∧ ∀ n, n < M.x.length → F (f n)

theorem FRep.keep {w w' : World} {b : Nat} {M : FM} {f : Nat → Nat} (h : FRep w b M f) (hb : w'.heap[b]? = w.heap[b]?) (hn : ∀ n, n < M.x.length → w'.heap[f n]? = w.heap[f n]?) : FRep w' b M f := by
  obtain ⟨⟨c, h1, h2, h3⟩, h4, h5⟩ := h
  exact ⟨⟨c, hb.trans h1, h2, h3⟩, fun n hx => (hn n hx).trans (h4 n hx), h5⟩

theorem Fds.keep {w w' : World} {b : Nat} {M : FM} {F G : Nat → Prop} (h : Fds w b M F) (hm : Mod G w w') (hd : ∀ k, F k → ¬ G k) : Fds w' b M F := by
  obtain ⟨h1, h2, f, h3, h4, h5⟩ := h
  exact ⟨h1, fun k hk => Nat.lt_of_lt_of_le (h2 k hk) hm.size, f, h3.keep (hm.block b (h2 b h4) (hd b h4)) (fun n hx => hm.block _ (h2 _ (h5 n hx)) (hd _ (h5 n hx))), h4, h5⟩

theorem Fds.below {w w' : World} {b : Nat} {M : FM} {F : Nat → Prop} (h : Fds w b M F) (hm : Below w.heap.size w w') : Fds w' b M F :=
  h.keep (G := fun _ => False) (Mod.of_below hm) (fun _ _ h => h)

theorem NewF.lt {F : Nat → Prop} {w w' : World} (h : ∀ k, F k → k < w.heap.size) (hs : w.heap.size ≤ w'.heap.size) (k : Nat) (hk : New F w w' k) : k < w'.heap.size :=
  hk.elim (fun h1 => by have := h k h1; omega) (fun h1 => h1.2)

theorem Fds.more {w : World} {b : Nat} {M : FM} {F G : Nat → Prop} (h : Fds w b M F) (hF : ∀ k, F k → G k) (hG : ∀ k, G k → k < w.heap.size) : Fds w b M G := by
  obtain ⟨h1, h2, f, h3, h4, h5⟩ := h
  exact ⟨h1, hG, f, h3, hF _ h4, fun n hn => hF _ (h5 n hn)⟩

theorem Fds.new {w w' : World} {b : Nat} {M : FM} {F : Nat → Prop} (h : Fds w b M F) (hm : Below w.heap.size w w') : Fds w' b M (New F w w') :=
  (h.below hm).more (fun _ hk => .inl hk) (fun k hk => NewF.lt h.lt hm.size k hk)

theorem FRep.cell {w : World} {b : Nat} {M : FM} {f : Nat → Nat} (h : FRep w b M f) (i : Nat) (hi : i < 48) :
    w.cell? ⟨b, i, none⟩ = some (.pointer (ptrF f (M.get i))) ∧ w.frozen? ⟨b, i, none⟩ = false := by
  obtain ⟨c, h1, h2, h3⟩ := h.tab
  exact ⟨(cell_of_heap h1 _).trans (h3 i hi), frozen_of_heap h1 _⟩

theorem FRep.fcell {w : World} {b : Nat} {M : FM} {f : Nat → Nat} (h : FRep w b M f) {n : Nat} (hn : n < M.x.length) :
    w.cell? ⟨f n, 0, none⟩ = some (.int .i64 (M.fd n).kind) ∧ w.cell? ⟨f n, 1, none⟩ = some (.int .i64 (M.fd n).id) ∧ w.cell? ⟨f n, 2, none⟩ = some (.int .i64 (M.fd n).off) ∧
    w.cell? ⟨f n, 3, none⟩ = some (.bool (M.fd n).app) ∧ w.cell? ⟨f n, 4, none⟩ = some (.int .i64 (M.refs n)) ∧ ∀ j, w.frozen? ⟨f n, j, none⟩ = false := by
  have h1 := h.file n hn
  refine ⟨?_, ?_, ?_, ?_, ?_, fun j => frozen_of_heap h1 j⟩ <;> (rw [cell_of_heap h1]; rfl)

theorem FRep.ne {w : World} {b : Nat} {M : FM} {f : Nat → Nat} (h : FRep w b M f) {n : Nat} (hn : n < M.x.length) : f n ≠ b := by
  intro e
  obtain ⟨c, h1, _⟩ := h.tab
  have h2 := h.file n hn
  rw [e, h1] at h2
  injection h2 with h2
  injection h2 with _ h2
  exact absurd h2 (by decide)

theorem fat_nil (p d : Int) (w : World) :
    Calls Try.prog 69 #[.pointer none, .int .i64 p, .int .i64 d] w fun r w' => r = .returned (.pointer none) ∧ w = w' := by
  go_enter Try.func69, Try.ntmps69
  go_wp2
  go_ret
  exact ⟨rfl, rfl⟩

theorem fat_in (b : Nat) (p d : Int) (hp : pidB p = true) (hd : fdB d = true) (w : World) :
    Calls Try.prog 69 #[.pointer (some ⟨b, 0, none⟩), .int .i64 p, .int .i64 d] w fun r w' => r = .returned (.pointer (some ⟨b, idxF p d, none⟩)) ∧ w = w' := by
  simp [pidB, fdB] at hp hd
  obtain ⟨q, rfl⟩ : ∃ q : Nat, p = (q : Int) + 1 := ⟨(p - 1).toNat, by omega⟩
  obtain ⟨j, rfl⟩ := Int.eq_ofNat_of_zero_le hd.1
  have hq : q < 8 := by omega
  have hj : j < 6 := by omega
  have hi : idxF ((q : Int) + 1) j = q * 6 + j := by unfold idxF; omega
  rw [hi]
  clear hi hp hd
  go_enter Try.func69, Try.ntmps69
  go_wp2
  go_ret
  exact ⟨rfl, rfl⟩

theorem fat_out (b : Nat) (p d : Int) (h : (pidB p && fdB d) = false) (w : World) :
    Calls Try.prog 69 #[.pointer (some ⟨b, 0, none⟩), .int .i64 p, .int .i64 d] w fun r w' => r = .returned (.pointer none) ∧ w = w' := by
  have hc : p < 1 ∨ (1 ≤ p ∧ 8 < p) ∨ (1 ≤ p ∧ p ≤ 8 ∧ d < 0) ∨ (1 ≤ p ∧ p ≤ 8 ∧ 0 ≤ d ∧ 6 ≤ d) := by
    simp [pidB, fdB] at h
    omega
  clear h
  rcases hc with h | ⟨h1, h2⟩ | ⟨h1, h2, h3⟩ | ⟨h1, h2, h3, h4⟩
  all_goals
    go_enter Try.func69, Try.ntmps69
    go_wp2
    go_ret
    exact ⟨rfl, rfl⟩

theorem ffile_nil (p d : Int) (w : World) :
    Calls Try.prog 71 #[.pointer none, .int .i64 p, .int .i64 d] w fun r w' => r = .returned (.pointer none) ∧ w = w' := by
  have ha := fat_nil p d w
  go_enter Try.func71, Try.ntmps71
  go_wp2_with fail
  refine ha.mono ?_
  rintro r w' ⟨rfl, rfl⟩
  go_wp2
  go_ret
  exact ⟨rfl, rfl⟩

theorem ffile {b : Nat} {M : FM} {f : Nat → Nat} {w : World} (h : FRep w b M f) (p d : Int) :
    Calls Try.prog 71 #[.pointer (some ⟨b, 0, none⟩), .int .i64 p, .int .i64 d] w fun r w' => r = .returned (.pointer (ptrF f (M.file p d))) ∧ w = w' := by
  unfold FM.file
  by_cases hc : (pidB p && fdB d) = true
  · rw [if_pos hc]
    rw [Bool.and_eq_true] at hc
    have ha := fat_in b p d hc.1 hc.2 w
    have c0 := (h.cell (idxF p d) (pidB_idx hc.1 hc.2)).1
    clear h hc
    go_enter Try.func71, Try.ntmps71
    go_wp2_with fail
    refine ha.mono ?_
    rintro r w' ⟨rfl, rfl⟩
    clear ha
    go_wp2
    go_ret
    exact ⟨rfl, rfl⟩
  · rw [if_neg hc]
    have ha := fat_out b p d (by simpa using hc) w
    clear h hc
    go_enter Try.func71, Try.ntmps71
    go_wp2_with fail
    refine ha.mono ?_
    rintro r w' ⟨rfl, rfl⟩
    clear ha
    go_wp2
    go_ret
    exact ⟨rfl, rfl⟩

end Go.Proofs.Ytpclhecpfjkehaa
