/- Laws on arrays in memory that every walk may use: an array read out of the middle of a block, an element of an array's value. -/
import Derived.Test.YtpclhecpfjkehaaBase
import Derived.WalkLawsBesides
namespace Go.Proofs.Ytpclhecpfjkehaa
open Go.RowKit

/-- One operation whose run is known. -/
theorem wpList_run {P : Program} {ops : Array Oper} {Q : Exit → Act → World → Prop} {a : Act} {w : World} {rest : List Oper} {o : Oper} (hg : o.guard = none) (v : Value) (w' : World)
    (hr : (execOp a.eval o).run P w = .ok (.value v) w') (h : wpList P ops Q rest (a.put o.dst v) w') : wpList P ops Q (o :: rest) a w :=
  wpList_plain hg fun K hK => by
    unfold Oper.wp
    rw [hr]
    exact hK _ _ h

/-- The cells f 0, f 1, .. as a value's cells (a plain definition: the walk does not open it). -/
def rowA (n : Nat) (f : Nat → Value) : Array Value := ((List.range n).map f).toArray

theorem rowA_at (n : Nat) (f : Nat → Value) (k : Nat) (h : k < n) : (rowA n f)[k]? = some (f k) := by simp [rowA, h]

theorem run_loadVar_fn {P : Program} (w : World) (ty : TypeId) (ad : Addr) (n : Nat) (f : Nat → Value) (d : TypeDesc)
    (hu : P.underlying ty = some d) (hd : (match d with | .struct _ | .array _ _ => true | _ => false) = true) (hi : (P.info? ty).map (·.size) = some n)
    (hc : ∀ j, j < n → w.cell? (ad.add j) = some (f j)) :
    (loadVar ty ad).run P w = .ok (.agg (rowA n f)) w := by
  have hl := run_loadCells (P := P) w ad n f hc
  cases hq : P.info? ty with
  | none => simp [hq] at hi
  | some i =>
    have hs : i.size = n := by simpa [hq] using hi
    have hagg : (isAgg ty).run P w = .ok true w := by
      unfold isAgg
      rw [Sem.run_bind, run_underlying hu w]
      cases d <;> simp_all
    simp [loadVar, Sem.run_bind, hagg, sizeOf, typeInfo, hq, hs, hl, rowA]

theorem wpList_load_fn {P : Program} {ops : Array Oper} {rest : List Oper} {o : Oper} {a : Act} {w : World} {Q : Exit → Act → World → Prop} (hgd : o.guard = none) (ty : TypeId) (x : Operand) (ho : o.op = .load ty x)
    (ad : Addr) (hx : a.eval x = .pointer (some ad)) (n : Nat) (f : Nat → Value) (d : TypeDesc)
    (hu : P.underlying ty = some d) (hd : (match d with | .struct _ | .array _ _ => true | _ => false) = true) (hi : (P.info? ty).map (·.size) = some n)
    (hc : ∀ j, j < n → w.cell? (ad.add j) = some (f j))
    (h : wpList P ops Q rest (a.put o.dst (.agg (rowA n f))) w) : wpList P ops Q (o :: rest) a w :=
  wpList_plain hgd fun K hK => by
    unfold Oper.wp execOp
    simp only [ho, hx, Instr.loadAt, Instr.sureAddr, Sem.run_bind, Sem.run_pure, Result.andThen_ok, run_loadVar_fn w ty ad n f d hu hd hi hc]
    exact hK _ _ h

theorem run_index_one {P : Program} (w : World) (t e : TypeId) (n : Nat) (cs : Array Value) (k : Nat) (v : Value) (d : TypeDesc) (ht : P.underlying t = some (.array n e))
    (hu : P.underlying e = some d) (hd : (match d with | .struct _ | .array _ _ => true | _ => false) = false) (hi : (P.info? e).map (·.size) = some 1) (hk : k < n) (hv : cs[k]? = some v) :
    (Instr.index t (.agg cs) (.int .i64 k)).run P w = .ok v w := by
  cases hq : P.info? e with
  | none => simp [hq] at hi
  | some i =>
    have hs : i.size = 1 := by simpa [hq] using hi
    have hagg : (isAgg e).run P w = .ok false w := by
      unfold isAgg
      rw [Sem.run_bind, run_underlying hu w]
      cases d <;> simp_all
    simp [Instr.index, asIntOf, run_underlying ht, sizeOf, typeInfo, hq, hs, part, hagg, hv, hk]

theorem add_mk (b o j : Nat) : (⟨b, o, none⟩ : Addr).add j = ⟨b, o + j, none⟩ := by
  unfold Addr.add
  by_cases h : j = 0 <;> simp [h]

end Go.Proofs.Ytpclhecpfjkehaa
