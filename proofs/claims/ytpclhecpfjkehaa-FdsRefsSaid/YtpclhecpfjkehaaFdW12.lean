/- fds.Decode: at any words. -/
import Derived.Test.YtpclhecpfjkehaaFdW11
namespace Go.Proofs.Ytpclhecpfjkehaa
open Go.RowKit Go.Shelf

/-- What Decode answers. -/
def DecAns (w : World) (ws : List Int) (y : Ending) (w' : World) : Prop := Below w.heap.size w w' ∧
      ((decode ws = none ∧ y = .returned (.tuple #[.pointer none, .int .i64 101])) ∨
       (∃ M g, decode ws = some M ∧ y = .returned (.tuple #[.pointer (some ⟨g, 0, none⟩), .int .i64 0]) ∧ Fds w' g M (fun k => w.heap.size ≤ k ∧ k < w'.heap.size)))

set_option maxRecDepth 100000 in
set_option maxHeartbeats 1000000 in
theorem decode_no_in {w : World} (A : Option Addr) (len cap : Nat) (w0 : Int) (hw0 : 0 ≤ w0 ∧ w0 ≤ 18446744073709551615) (hl : len ≤ 9223372036854775807)
    (h : len = 0 ∨ (∃ b o, A = some ⟨b, o, none⟩ ∧ b < w.heap.size ∧ w.cell? ⟨b, o, none⟩ = some (.int .u64 w0) ∧ 1 ≤ len ∧ (32 < w0 ∨ (w0 ≤ 32 ∧ (len : Int) ≠ 1 + 4 * w0 + 48)))) :
    CallsIn Fence.wide 10 Try.prog 20 #[.slice A len cap] w fun y w' => Below w.heap.size w w' ∧ y = .returned (.tuple #[.pointer none, .int .i64 101]) := by
  have hB : Below w.heap.size w (((w.alloc (.cells #[.pointer none] 43)).alloc (.cells #[.int .i64 101] 44))) := ((Below.refl _ _).alloc (Nat.le_refl _) _).alloc (by simp) _
  rcases h with rfl | ⟨b, o, rfl, hb, c0, h1, h⟩
  · refine callsIn_of_wp_marks Try.func20 rfl trivial ?_ rfl
    simp only [Try.ntmps20, List.size_toArray, List.length_cons, List.length_nil, Nat.reduceAdd, Nat.reduceSub, Array.replicate_succ, Array.replicate_zero, List.push_toArray, List.append_toArray, List.nil_append, List.cons_append]
    gi_wp2
    refine ⟨.tuple #[.pointer none, .int .i64 101], ?_, hB, rfl⟩
    simp [results, Try.f20, go_sem]
  · have i0 : decide ((len : Int) < 1) = false := by simp; omega
    have hb1 : b < w.heap.size + 1 := by omega
    have hb2 : b < w.heap.size + 1 + 1 := by omega
    rcases h with h | ⟨h2, h3⟩
    · have i1 : decide ((32 : Int) < w0) = true := by simp; omega
      refine callsIn_of_wp_marks Try.func20 rfl trivial ?_ rfl
      simp only [Try.ntmps20, List.size_toArray, List.length_cons, List.length_nil, Nat.reduceAdd, Nat.reduceSub, Array.replicate_succ, Array.replicate_zero, List.push_toArray, List.append_toArray, List.nil_append, List.cons_append]
      gi_wp2
      refine ⟨.tuple #[.pointer none, .int .i64 101], ?_, hB, rfl⟩
      simp [results, Try.f20, go_sem]
    · have i1 : decide ((32 : Int) < w0) = false := by simp; omega
      have i2 : ((len : Int) != 1 + 4 * w0 + 48) = true := by simpa using h3
      refine callsIn_of_wp_marks Try.func20 rfl trivial ?_ rfl
      simp only [Try.ntmps20, List.size_toArray, List.length_cons, List.length_nil, Nat.reduceAdd, Nat.reduceSub, Array.replicate_succ, Array.replicate_zero, List.push_toArray, List.append_toArray, List.nil_append, List.cons_append]
      gi_wp2
      refine ⟨.tuple #[.pointer none, .int .i64 101], ?_, hB, rfl⟩
      simp [results, Try.f20, go_sem]

theorem decode_any {w : World} {v : Value} {ws : List Int} (h : WSl w v ws) (hw : WordsOk ws) :
    Calls Try.prog 20 #[v] w (DecAns w ws) := by
  obtain ⟨A, cap, rfl, h1, h2, h3⟩ := h.ex
  have hlow : hdrOk ws = false → (ws.length = 0 ∨ (∃ b o, A = some ⟨b, o, none⟩ ∧ b < w.heap.size ∧ w.cell? ⟨b, o, none⟩ = some (.int .u64 (wdA ws 0)) ∧ 1 ≤ ws.length ∧ (32 < wdA ws 0 ∨ (wdA ws 0 ≤ 32 ∧ (ws.length : Int) ≠ 1 + 4 * wdA ws 0 + 48)))) := by
    intro hh
    by_cases h0 : ws.length = 0
    · exact .inl h0
    · obtain ⟨b, o, rfl, hb, hc⟩ := h3 (by omega)
      refine .inr ⟨b, o, rfl, hb, hc 0 (by omega), by omega, ?_⟩
      have hn := wdA_nonneg hw 0
      unfold hdrOk nFiles at hh
      simp only [Bool.and_eq_false_iff, decide_eq_false_iff_not] at hh
      omega
  by_cases hh : hdrOk ws = true
  · have h4 := hh
    unfold hdrOk at h4
    simp only [Bool.and_eq_true, decide_eq_true_eq] at h4
    obtain ⟨b, o, rfl, hb, hc⟩ := h3 (by omega)
    have hn := wdA_nonneg hw 0
    exact callsIn_wide.1 (decode_ok_in h4.2 h1 h2 (by unfold nFiles; omega) hb hw hc)
  · have hh' : hdrOk ws = false := by simpa using hh
    have hmax : 0 ≤ wdA ws 0 ∧ wdA ws 0 ≤ 18446744073709551615 := by
      refine ⟨wdA_nonneg hw 0, ?_⟩
      unfold wdA
      cases hx : ws[0]? with
      | none => simp
      | some y => exact (hw y (List.mem_of_getElem? hx)).2
    refine callsIn_wide.1 ((decode_no_in A ws.length cap (wdA ws 0) hmax (by omega) (hlow hh')).mono ?_)
    rintro y w' ⟨hb, rfl⟩
    exact ⟨hb, .inl ⟨decode_hdr hh', rfl⟩⟩

end Go.Proofs.Ytpclhecpfjkehaa
