/- caps: New, at, Get. -/
import Derived.Test.YtpclhecpfjkehaaCapsW1
import Derived.Test.YtpclhecpfjkehaaArr
import Derived.RegionTactic
import Derived.ChangeAlike
namespace Go.Proofs.Ytpclhecpfjkehaa
open Go.RowKit

def zeroCaps : Array Value := Array.replicate 780 (.pointer none)

theorem build_caps (ρ : Operand → Value) (dst : Option Tmp) (ty : TypeId) (pos : String) (after : Array Edge) (g : Option (Nat × Bool)) (w : World) :
    (execOp ρ { dst, op := .build 88 #[], type := ty, pos, after, guard := g }).run Try.prog w = .ok (.value (.agg zeroCaps)) w := by kernel_rfl

set_option maxRecDepth 100000 in
theorem new_any (w : World) :
    Calls Try.prog 9 #[] w fun r w' => r = .returned (.pointer (some ⟨w.heap.size, 0, none⟩)) ∧
      w.alloc (.cells zeroCaps 88) = w' := by
  go_enter Try.func9, Try.ntmps9
  go_wp2_with (with_reducible refine wpList_run rfl _ _ (build_caps _ _ _ _ _ _ _) ?_)
  go_ret
  exact ⟨rfl, rfl⟩

theorem zeroCaps_size : zeroCaps.size = 780 := by simp [zeroCaps]
theorem zeroCaps_at (i : Nat) (h : i < 780) : zeroCaps[i]? = some (.pointer none) := by simp [zeroCaps, h]

/-! ### How capabilities lie in memory -/

def ptrTo (f : Int → Nat) : Option CE → Option Addr
  | none => none
  | some c => some ⟨f c.no, 0, none⟩

def ofPtr (f : Int → Nat) (of : Int) : Option Addr := if of = 0 then none else some ⟨f of, 0, none⟩

def nodeCells (f : Int → Nat) (c : CE) : Array Value :=
  #[.int .i64 c.x.kind, .int .i64 c.x.id, .int .i64 c.x.len, .int .i64 c.x.rights, .int .i64 c.env, .int .i64 c.slot, .pointer (ofPtr f c.of)]

structure Rep (w : World) (b : Nat) (L : List CE) (f : Int → Nat) : Prop where
  tab : ∃ c, w.heap[b]? = some (.cells c 88 (0, 0)) ∧ c.size = 780 ∧ ∀ e s : Nat, e < 12 → s < 65 → c[e * 65 + s]? = some (.pointer (ptrTo f (findE L e s)))
  node : ∀ x ∈ L, w.heap[f x.no]? = some (.cells (nodeCells f x) 102 (0, 0))
  inj : ∀ x ∈ L, ∀ y ∈ L, f x.no = f y.no → x.no = y.no

/-- The capabilities M lie at block b of w, in blocks of F alone. -/
structure Caps (w : World) (b : Nat) (M : CM) (F : Nat → Prop) : Prop where
  wf : M.WF
  lt : ∀ k, F k → k < w.heap.size
  rep : ∃ f, Rep w b M.L f ∧ F b ∧ ∀ x ∈ M.L, F (f x.no)

theorem Rep.keep {w w' : World} {b : Nat} {L : List CE} {f : Int → Nat} (h : Rep w b L f) (hb : w'.heap[b]? = w.heap[b]?) (hn : ∀ x ∈ L, w'.heap[f x.no]? = w.heap[f x.no]?) : Rep w' b L f := by
  obtain ⟨⟨c, h1, h2, h3⟩, h4, h5⟩ := h
  exact ⟨⟨c, hb.trans h1, h2, h3⟩, fun x hx => (hn x hx).trans (h4 x hx), h5⟩

theorem Caps.keep {w w' : World} {b : Nat} {M : CM} {F G : Nat → Prop} (h : Caps w b M F) (hm : Mod G w w') (hd : ∀ k, F k → ¬ G k) : Caps w' b M F := by
  obtain ⟨h1, h2, f, h3, h4, h5⟩ := h
  exact ⟨h1, fun k hk => Nat.lt_of_lt_of_le (h2 k hk) hm.size, f, h3.keep (hm.block b (h2 b h4) (hd b h4)) (fun x hx => hm.block _ (h2 _ (h5 x hx)) (hd _ (h5 x hx))), h4, h5⟩

theorem Caps.below {w w' : World} {b : Nat} {M : CM} {F : Nat → Prop} (h : Caps w b M F) (hm : Below w.heap.size w w') : Caps w' b M F :=
  h.keep (G := fun _ => False) (Mod.of_below hm) (fun _ _ h => h)

theorem Rep.cell {w : World} {b : Nat} {L : List CE} {f : Int → Nat} (h : Rep w b L f) (e s : Nat) (he : e < 12) (hs : s < 65) :
    w.cell? ⟨b, e * 65 + s, none⟩ = some (.pointer (ptrTo f (findE L e s))) ∧ w.frozen? ⟨b, e * 65 + s, none⟩ = false := by
  obtain ⟨c, h1, h2, h3⟩ := h.tab
  exact ⟨(cell_of_heap h1 _).trans (h3 e s he hs), frozen_of_heap h1 _⟩

theorem at_nil (e s : Int) (w : World) :
    Calls Try.prog 61 #[.pointer none, .int .i64 e, .int .i64 s] w fun r w' => r = .returned (.pointer none) ∧ w = w' := by
  go_enter Try.func61, Try.ntmps61
  go_wp2
  go_ret
  exact ⟨rfl, rfl⟩

theorem isB_nat {e : Nat} (h : e < 12) : isB (e : Int) = true := by simp [isB]; omega

theorem at_in (b : Nat) (e s : Nat) (v : Value) (he : e < 12) (h1 : 1 ≤ s) (h2 : s ≤ 64) (w : World)
    (hc : w.cell? ⟨b, e * 65 + s, none⟩ = some v) :
    Calls Try.prog 61 #[.pointer (some ⟨b, 0, none⟩), .int .i64 e, .int .i64 s] w fun r w' => r = .returned v ∧ w = w' := by
  have hb := isB_nat he
  go_enter Try.func61, Try.ntmps61
  go_wp2_with (go_at_call 55; refine (is_any _ _).mono ?_; rintro r w' ⟨rfl, rfl⟩)
  all_goals go_ret
  all_goals exact ⟨rfl, rfl⟩

theorem at_out (b : Nat) (e s : Int) (w : World) (h : isB e = false ∨ isB e = true ∧ s < 1 ∨ isB e = true ∧ 1 ≤ s ∧ 64 < s) :
    Calls Try.prog 61 #[.pointer (some ⟨b, 0, none⟩), .int .i64 e, .int .i64 s] w fun r w' => r = .returned (.pointer none) ∧ w = w' := by
  rcases h with h | ⟨h, h1⟩ | ⟨h, h1, h2⟩
  all_goals
    go_enter Try.func61, Try.ntmps61
    go_wp2_with (go_at_call 55; refine (is_any _ _).mono ?_; rintro r w' ⟨rfl, rfl⟩)
    all_goals go_ret
    all_goals exact ⟨rfl, rfl⟩

theorem at_rep {b : Nat} {M : CM} {f : Int → Nat} {w : World} (hw : M.WF) (h : Rep w b M.L f) (e s : Int) :
    Calls Try.prog 61 #[.pointer (some ⟨b, 0, none⟩), .int .i64 e, .int .i64 s] w fun r w' => r = .returned (.pointer (ptrTo f (findE M.L e s))) ∧ w = w' := by
  by_cases hin : 0 ≤ e ∧ e < 12 ∧ 1 ≤ s ∧ s ≤ 64
  · obtain ⟨e, rfl⟩ := Int.eq_ofNat_of_zero_le hin.1
    obtain ⟨s, rfl⟩ := Int.eq_ofNat_of_zero_le (show 0 ≤ s by omega)
    exact at_in b e s _ (by omega) (by omega) (by omega) w (h.cell e s (by omega) (by omega)).1
  · rw [findE_out hw hin]
    refine at_out b e s w ?_
    simp [isB]
    omega

end Go.Proofs.Ytpclhecpfjkehaa
