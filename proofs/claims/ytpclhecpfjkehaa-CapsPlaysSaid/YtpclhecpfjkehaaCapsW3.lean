/- caps: Get, put, Add, Give. -/
import Derived.Test.YtpclhecpfjkehaaCapsW2
namespace Go.Proofs.Ytpclhecpfjkehaa
open Go.RowKit

def capA (x : Cap) : Array Value := #[.int .i64 x.kind, .int .i64 x.id, .int .i64 x.len, .int .i64 x.rights]

def getA : Option CE → Array Value
  | none => #[.int .i64 0, .int .i64 0, .int .i64 0, .int .i64 0]
  | some c => capA c.x

theorem Rep.ncell {w : World} {b : Nat} {L : List CE} {f : Int → Nat} (h : Rep w b L f) {c : CE} (hc : c ∈ L) :
    w.cell? ⟨f c.no, 0, none⟩ = some (.int .i64 c.x.kind) ∧ w.cell? ⟨f c.no, 1, none⟩ = some (.int .i64 c.x.id) ∧ w.cell? ⟨f c.no, 2, none⟩ = some (.int .i64 c.x.len) ∧
    w.cell? ⟨f c.no, 3, none⟩ = some (.int .i64 c.x.rights) ∧ w.cell? ⟨f c.no, 4, none⟩ = some (.int .i64 c.env) ∧ w.cell? ⟨f c.no, 5, none⟩ = some (.int .i64 c.slot) ∧
    w.cell? ⟨f c.no, 6, none⟩ = some (.pointer (ofPtr f c.of)) ∧ w.frozen? ⟨f c.no, 6, none⟩ = false := by
  have hn := h.node c hc
  refine ⟨?_, ?_, ?_, ?_, ?_, ?_, ?_, frozen_of_heap hn 6⟩ <;> (rw [cell_of_heap hn]; rfl)

theorem Rep.nlt {w : World} {b : Nat} {L : List CE} {f : Int → Nat} (h : Rep w b L f) {c : CE} (hc : c ∈ L) : f c.no < w.heap.size := lt_of_heap (h.node c hc)

theorem get_any {w : World} {b : Nat} {M : CM} {F : Nat → Prop} (h : Caps w b M F) (e s : Int) :
    Calls Try.prog 16 #[.pointer (some ⟨b, 0, none⟩), .int .i64 e, .int .i64 s] w fun r w' =>
      r = .returned (.tuple #[.agg (getA (findE M.L e s)), .bool (findE M.L e s).isSome]) ∧ Below w.heap.size w w' := by
  obtain ⟨hw, hlt, f, hr, hFb, hFn⟩ := h
  have hr1 : Rep (w.alloc (.cells #[.int .i64 0, .int .i64 0, .int .i64 0, .int .i64 0] 30)) b M.L f :=
    hr.keep (by rw [heap_alloc, if_neg (by have := hlt b hFb; omega)]) (fun x hx => by rw [heap_alloc, if_neg (by have := hlt _ (hFn x hx); omega)])
  have hat := at_rep hw hr1 e s
  cases hf : findE M.L e s with
  | none =>
    rw [hf] at hat
    clear hr hr1
    go_enter Try.func16, Try.ntmps16
    go_wp2_with (go_at_call 61; refine hat.mono ?_; rintro r w' ⟨rfl, rfl⟩; simp only [ptrTo])
    exact bodyPost_ret (v := .tuple #[.agg #[.int .i64 0, .int .i64 0, .int .i64 0, .int .i64 0], .bool false]) (by simp [results, Try.results16, go_sem]) rfl ⟨rfl, (Below.refl _ _).alloc (Nat.le_refl _) _⟩
  | some c =>
    rw [hf] at hat
    obtain ⟨hc, _, _⟩ := findE_some hf
    obtain ⟨c0, c1, c2, c3, _, _, _, _⟩ := hr.ncell hc
    have hl := hr.nlt hc
    clear hr hr1 hf
    go_enter Try.func16, Try.ntmps16
    go_wp2_with (go_at_call 61; refine hat.mono ?_; rintro r w' ⟨rfl, rfl⟩; simp only [ptrTo])
    exact bodyPost_ret (v := .tuple #[.agg (capA c.x), .bool true]) (by simp [results, Try.results16, go_sem, capA]) rfl ⟨rfl, (Below.refl _ _).alloc (Nat.le_refl _) _⟩

end Go.Proofs.Ytpclhecpfjkehaa
