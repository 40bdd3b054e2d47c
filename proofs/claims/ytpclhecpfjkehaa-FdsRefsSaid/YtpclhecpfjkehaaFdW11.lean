/- fds.Decode: the walk. -/
import Derived.Test.YtpclhecpfjkehaaFdD3
import Derived.StillTailTactics
import Derived.Deep.RegionHeld3
import Derived.Deep.QuietTactic
import Derived.BigQuiet
import Derived.RangeFuncWrites
import Derived.Shelf.Abstract
namespace Go.Proofs.Ytpclhecpfjkehaa
open Go.RowKit Go.Shelf

attribute [local go_sem] Oper.semAt_some

/-- A slice of words. -/
structure WSl (w : World) (v : Value) (ws : List Int) : Prop where
  ex : ∃ A cap, v = .slice A ws.length cap ∧ ws.length ≤ cap ∧ cap ≤ 9223372036854775807 ∧ (0 < ws.length → ∃ b o, A = some ⟨b, o, none⟩ ∧ b < w.heap.size ∧ ∀ i, i < ws.length → w.cell? ⟨b, o + i, none⟩ = some (.int .u64 (wdA ws i)))

theorem wanted_pos {o : Oper} {ops : Array Oper} {t : Array Value} (h : o.guard = none) : Region.wanted o (yielded ops t) = true := by simp [Region.wanted, h]

theorem step_if {o : Oper} {ops : Array Oper} {t : Array Value} {A B : Prop} (h : o.guard = none) (hA : A) : if Region.wanted o (yielded ops t) = true then A else B := by
  rw [if_pos (wanted_pos h)]; exact hA

/-- 'wpAnyH_take', the slot written out. -/
theorem take_d {P : Program} {md : Region.Mode} {ops : Array Oper} {Q : Exit → Act → World → Prop} {S : World → Prop} {i : Nat} {oi : Oper} (d : Option Tmp) (v : Value) {fuel : Nat} {listed : Array Bool} {a : Act} {w : World} (hi : ops[i]? = some oi) (hd : oi.dst = d) (hg : oi.guard = none)
    (hs : Region.noSelect ops = true) (hf : Region.free md ops listed i = true) (hr : (Region.ready md ops listed).contains i = true)
    (hQ : ∀ c a w, Q (.panic c) (a.put d v) w → Q (.panic c) a w) (hy : ∀ w', S w' → (execOp a.eval oi).run P w' = .ok (.value v) w') (hS : S w)
    (h : wpAnyH P md ops Q S fuel (listed.setIfInBounds i true) (a.put d v) w) : wpAnyH P md ops Q S (fuel + 1) listed a w := by
  subst hd
  exact wpAnyH_take hi hs hf hr hQ (.inl ⟨wanted_pos hg, hy⟩) hS h

theorem ready_d {P : Program} {md : Region.Mode} {ops : Array Oper} {Q : Exit → Act → World → Prop} {S : World → Prop} {fuel : Nat} {listed : Array Bool} {a : Act} {w : World} {i : Nat} {o : Oper} {rs : List Nat} (ho : ops[i]? = some o) (hg : o.guard = none)
    (h : ∀ K' : Act → World → Prop, Shut (∀ a w, S w → (S w → wpAnyH P md ops Q S fuel (listed.setIfInBounds i true) a w) → K' a w) → Oper.wp P o a w K' Q)
    (hs : AllReadyH P md ops Q S fuel listed a w rs) : AllReadyH P md ops Q S fuel listed a w (i :: rs) :=
  AllReadyH.cons ho (fun K' hK => step_if hg (h K' hK)) hs

theorem wrap_s64 {n : Int} (h : 0 ≤ n) (h2 : n ≤ 9223372036854775807) : IntKind.i64.wrap n = n := by
  simp [IntKind.wrap, IntKind.bits, IntKind.signed]
  omega

theorem rangeFunc_put {P : Program} {α : Type} {g : Operand} {p : Tmp} {assign body : Code} {Q : Exit → Act → World → Prop} {a : Act} {w : World}
    {gf : Nat} {lb : Array Value} (hg : a.eval g = .func (.func gf) #[] lb) (eg : ∀ args w, (callFunc gf args).run P w = .ok (.enter gf args) w)
    {val : α → Value} {S Sp : List α → Prop} {N n₀ Bs Bn : Nat} (hseq : SeqStopsK Fence.wide 9 P gf lb (fun x => #[val x]) (KpC n₀ Bs Bn) S Sp N w) (hn₀ : n₀ ≤ w.heap.size) (hBs : Bs < w.heap.size) (hBn : Bn < w.heap.size) (j : Tmp)
    (I : List α → World → Prop) (Ix : Code → List α → World → Prop) (hI : OwnFrom w.heap.size I) (hIx : ∀ c, OwnFrom w.heap.size (Ix c)) (h0 : I [] w)
    (hassign : ∀ (l : Nat) (x : α) (W : World) (K : Act → World → Prop), K (Act.put { tmps := a.tmps.setIfInBounds p (val x), defers := [] } (some j) (val x)) W →
      assign.wpIn (Fence.wide.inRound l) 8 P (Exit.then K (fun _ _ _ => False)) { tmps := a.tmps.setIfInBounds p (val x), defers := [] } W)
    (hbody : ∀ (l : Nat) (pre : List α) (x : α) (W : World), I pre W → pre.length < N → body.wpIn (Fence.wide.inRound l) 8 P (ownPostG w.heap.size (KpC n₀ Bs Bn) I Ix (pre ++ [x]) W) (Act.put { tmps := a.tmps.setIfInBounds p (val x), defers := [] } (some j) (val x)) W)
    (hdone : ∀ (D : Nat) (xs : List α) (W : World), w.heap.size ≤ D → S xs → I xs W → W.heap[D]? = some (.deferred (some [])) → Q .normal { a with defers := { target := .collected D, args := #[] } :: a.defers } W)
    (hstop : ∀ (D : Nat) (c : Code) (pre : List α) (W : World), w.heap.size ≤ D → Sp pre → Ix c pre W → W.heap[D]? = some (.deferred (some [])) → c.wpIn Fence.wide 10 P Q { a with defers := { target := .collected D, args := #[] } :: a.defers } W) :
    (Code.rangeFunc g #[p] assign body).wpIn Fence.wide 10 P Q a w :=
  wpIn_rangeFunc_ownG rfl (by decide) hg trivial eg hseq KpC.trans (fun W l o o' h1 h2 h3 h4 => KpC.put hn₀ hBs hBn h1 h2 h3 h4) (Below.refl _ _) (fun _ => rfl) I Ix hI hIx h0
    (fun x => Act.put { tmps := a.tmps.setIfInBounds p (val x), defers := [] } (some j) (val x)) (fun l x W K hK => by
      have e : ((#[p] : Array Tmp).zip #[val x]).foldl (fun t (p, v) => t.setIfInBounds p v) a.tmps = a.tmps.setIfInBounds p (val x) := by simp
      rw [e]
      exact hassign l x W K hK) hbody hdone hstop

set_option maxRecDepth 100000 in
set_option maxHeartbeats 16000000 in
theorem decode_ok_in {w : World} {ws : List Int} {b o cap : Nat} (hlen : ws.length = 1 + 4 * nFiles ws + 48) (hcap : ws.length ≤ cap) (hcap2 : cap ≤ 9223372036854775807) (h32 : nFiles ws ≤ 32) (hb : b < w.heap.size) (hw : WordsOk ws)
    (hc : ∀ i, i < ws.length → w.cell? ⟨b, o + i, none⟩ = some (.int .u64 (wdA ws i))) :
    CallsIn Fence.wide 10 Try.prog 20 #[.slice (some ⟨b, o, none⟩) ws.length cap] w fun y w' => Below w.heap.size w w' ∧
      ((decode ws = none ∧ y = .returned (.tuple #[.pointer none, .int .i64 101])) ∨
       (∃ M g, decode ws = some M ∧ y = .returned (.tuple #[.pointer (some ⟨g, 0, none⟩), .int .i64 0]) ∧ Fds w' g M (fun k => w.heap.size ≤ k ∧ k < w'.heap.size))) := by
  obtain ⟨N, hN⟩ : ∃ N, N = nFiles ws := ⟨_, rfl⟩
  have hw0 : wdA ws 0 = (N : Int) := by rw [hN]; unfold nFiles; have := wdA_nonneg hw 0; omega
  have c0 := hc 0 (by omega)
  rw [hw0, Nat.add_zero] at c0
  rw [← hN] at h32
  have HL := Lib.hid hlen
  have HN := Lib.hid hN
  have HW := Lib.hid hw
  have HC := Lib.hid hc
  obtain ⟨len, hle⟩ : ∃ len, len = ws.length := ⟨_, rfl⟩
  have hlen2 : len = 1 + 4 * N + 48 := by rw [hle, hlen, hN]
  rw [← hle] at hcap ⊢
  have i1 : (len : Int) = 1 + 4 * (N : Int) + 48 := by omega
  have i2 : ((len : Int) != 1 + 4 * (N : Int) + 48) = false := by simp; omega
  have HLE := Lib.hid hle
  have HL2 := Lib.hid hlen2
  have i3 : 1 ≤ len := by omega
  have i4 : 1 + 4 * N ≤ cap := by omega
  have i5 : ¬ cap = 1 := by omega
  have i6 : decide ((len : Int) < 1) = false := by simp; omega
  have i7 : decide ((32 : Int) < (N : Int)) = false := by simp; omega
  have hb1 : b < w.heap.size + 1 := by omega
  have hb2 : b < w.heap.size + 1 + 1 := by omega
  have hb3 : b < w.heap.size + 1 + 1 + 1 := by omega
  clear hlen hN hw hc hle hlen2 hw0 i1
  refine callsIn_of_wp_marks Try.func20 rfl trivial ?_ rfl
  simp only [Try.ntmps20, List.size_toArray, List.length_cons, List.length_nil, Nat.reduceAdd, Nat.reduceSub, Array.replicate_succ, Array.replicate_zero, List.push_toArray, List.append_toArray, List.nil_append, List.cons_append]
  gi_wp2
  refine ⟨trivial, (callsIn_wide.2 (chunk_any _ _ _ _)).mono ?_⟩
  rintro y w1 ⟨rfl, hw1⟩
  gi_wp2
  have hb0 : Below w.heap.size w w1 := by
    rw [← hw1]
    exact (((((Below.refl _ _).alloc (Nat.le_refl _) _).alloc (by simp) _).alloc (by simp; omega) _).alloc (by simp; omega) _).alloc (by simp; omega) _
  have hz1 : w1.heap.size = w.heap.size + 5 := by rw [← hw1]; simp
  have hP0 : DecP w [] w1 (.slice none 0 0) (fun _ => 0) := by
    refine ⟨hb0, ?_, ?_, ?_, by omega, World.ownsRow_nil _ _ _ _, fun j X hj => by simp at hj, fun i j hi => by simp at hi⟩
    · rw [← hw1, heap_alloc, if_neg (by simp <;> omega), heap_alloc, if_neg (by simp <;> omega), heap_alloc, if_neg (by simp <;> omega), heap_alloc, if_neg (by simp), heap_alloc, if_pos rfl]
    · rw [← hw1, heap_alloc, if_neg (by simp <;> omega), heap_alloc, if_neg (by simp <;> omega), heap_alloc, if_neg (by simp <;> omega), heap_alloc, if_pos (by simp)]
    · rw [← hw1, heap_alloc, if_neg (by simp <;> omega), heap_alloc, if_neg (by simp <;> omega), heap_alloc, if_pos (by simp)]
  have hs1 : w1.cell? ⟨w.heap.size + 3, 0, none⟩ = some (.slice (some ⟨b, o + 1, none⟩) (4 * N) (cap - 1)) := by
    rw [← hw1, World.cell?_alloc_lt _ _ _ (by simp), show w.heap.size + 3 = (((w.alloc (.cells #[.pointer none] 43)).alloc (.cells #[.int .i64 0] 44)).alloc (.cells #[.slice none 0 0] 111)).heap.size by simp, World.cell?_alloc_new]
    rfl
  have hs2 : w1.cell? ⟨w.heap.size + 4, 0, none⟩ = some (.int .i64 4) := by
    rw [← hw1, show w.heap.size + 4 = ((((w.alloc (.cells #[.pointer none] 43)).alloc (.cells #[.int .i64 0] 44)).alloc (.cells #[.slice none 0 0] 111)).alloc (.cells #[.slice (some ⟨b, o + 1, none⟩) (4 * N) (cap - 1)] 42)).heap.size by simp, World.cell?_alloc_new]
    rfl
  clear hw1
  refine rangeFunc_put (Bs := w.heap.size + 3) (Bn := w.heap.size + 4) (gf := 90) (lb := #[.pointer (some ⟨w.heap.size + 3, 0, none⟩), .pointer (some ⟨w.heap.size + 4, 0, none⟩)]) (n₀ := w.heap.size) (N := N) (val := fun x : ChNo N => .slice (some ⟨b, o + 1 + 4 * x.1, none⟩) 4 4) rfl
    (enters_of Try.func90 (by kernel_rfl) rfl)
    (S := fun ys => ys.map (·.1) = List.range N) (Sp := fun pre => ∃ k, k ≤ N ∧ pre.map (·.1) = List.range k) ?seq (by omega) (by omega) (by omega) 5 (DecI w ws N) (DecX w ws N) (DecI.ownFrom (by omega)) (fun c => DecX.ownFrom (by omega) c)
    ⟨⟨_, _, hP0⟩, by simp⟩ ?assign ?body ?done ?stop
  case seq => exact chunk_stops 9 (w.heap.size + 3) (w.heap.size + 4) w.heap.size b (o + 1) N (cap - 1) (by omega) (by have := HL2.out; omega) (by omega) w1 (by omega) (by omega) hs1 hs2
  case assign =>
    intro l x W K hK
    gi_wp2
    exact hK
  case body =>
    rintro l pre x W ⟨⟨v, f, hP⟩, hok⟩ hlt
    obtain ⟨x, hx⟩ := x
    have hcx : ∀ i, i < 4 → W.cell? ⟨b, o + 1 + 4 * x + i, none⟩ = some (.int .u64 (wdA ws (1 + 4 * x + i))) := fun i hi => by
      rw [hP.bel.cell hb, show o + 1 + 4 * x + i = o + (1 + 4 * x + i) by omega]
      exact HC.out _ (by rw [← HLE.out, HL2.out]; omega)
    have q0 := hcx 0 (by omega)
    have q1 := hcx 1 (by omega)
    have q2 := hcx 2 (by omega)
    have q3 := hcx 3 (by omega)
    simp only [Nat.add_zero] at q0
    rw [show 1 + 4 * x + 1 = 2 + 4 * x by omega] at q1
    rw [show 1 + 4 * x + 2 = 3 + 4 * x by omega] at q2
    rw [show 1 + 4 * x + 3 = 4 + 4 * x by omega] at q3
    have p0 := wdA_nonneg HW.out (1 + 4 * x)
    have p1 := wdA_nonneg HW.out (2 + 4 * x)
    have p2 := wdA_nonneg HW.out (3 + 4 * x)
    have p3 := wdA_nonneg HW.out (4 + 4 * x)
    have hfo : fileOk ws x = (decide (1 ≤ wdA ws (1 + 4 * x)) && decide (wdA ws (1 + 4 * x) ≤ 4) && decide (wdA ws (2 + 4 * x) ≤ 1048576) && decide (wdA ws (3 + 4 * x) ≤ 1048576) && decide (wdA ws (4 + 4 * x) ≤ 1)) := rfl
    have hfa : fileAt ws x = ⟨wdA ws (1 + 4 * x), wdA ws (2 + 4 * x), wdA ws (3 + 4 * x), wdA ws (4 + 4 * x) == 1⟩ := rfl
    obtain ⟨x0, e0⟩ : ∃ y, y = wdA ws (1 + 4 * x) := ⟨_, rfl⟩
    obtain ⟨x1, e1⟩ : ∃ y, y = wdA ws (2 + 4 * x) := ⟨_, rfl⟩
    obtain ⟨x2, e2⟩ : ∃ y, y = wdA ws (3 + 4 * x) := ⟨_, rfl⟩
    obtain ⟨x3, e3⟩ : ∃ y, y = wdA ws (4 + 4 * x) := ⟨_, rfl⟩
    rw [← e0] at q0 p0 hfo hfa
    rw [← e1] at q1 p1 hfo hfa
    rw [← e2] at q2 p2 hfo hfa
    rw [← e3] at q3 p3 hfo hfa
    have r0 : W.cell? ⟨w.heap.size, 0, none⟩ = some (.pointer none) := by rw [cell_of_heap hP.r0]; rfl
    have r1 : W.cell? ⟨w.heap.size + 1, 0, none⟩ = some (.int .i64 0) := by rw [cell_of_heap hP.r1]; rfl
    have f0 : W.frozen? ⟨w.heap.size, 0, none⟩ = false := frozen_of_heap hP.r0 _
    have f1 : W.frozen? ⟨w.heap.size + 1, 0, none⟩ = false := frozen_of_heap hP.r1 _
    have HP := Lib.hid hP
    have HOK := Lib.hid hok
    have HFA := Lib.hid hfa
    clear hcx e0 e1 e2 e3 hP hok hfa
    by_cases hgood : 1 ≤ x0 ∧ x0 ≤ 4 ∧ x1 ≤ 1048576 ∧ x2 ≤ 1048576 ∧ x3 ≤ 1
    · have hno : ¬ LetsOut (ownPostG w1.heap.size (KpC w.heap.size (w.heap.size + 3) (w.heap.size + 4)) (DecI w ws N) (DecX w ws N) (pre ++ [⟨x, hx⟩]) W) := by
        rintro ⟨a, w', h⟩
        exact h
      have lb : W.cell? ⟨w.heap.size + 2, 0, none⟩ = some v := by rw [cell_of_heap HP.out.lb]; rfl
      have lf : W.frozen? ⟨w.heap.size + 2, 0, none⟩ = false := frozen_of_heap HP.out.lb _
      obtain ⟨g1, g2, g3, g4, g5⟩ := hgood
      have HGD : Hid (fileOk ws x = true) := by show _ = _; rw [hfo]; simp [g1, g2, g3, g4, g5]
      clear hfo r0 r1 f0 f1
      obtain ⟨i0, hi0, hz0, hz1, hz2⟩ := info_parts fptrInfo
      have hxl : (fdsOf ws pre).length < N := by rw [fileAt_len]; exact hlt
      have hsz := HP.out.sz
      have hbW : b < W.heap.size := by omega
      have hLW : w.heap.size + 2 < W.heap.size := by omega
      have hLW1 : w.heap.size + 2 < W.heap.size + 1 := by omega
      have HSRC : Hid (Src ((W.alloc (.cells #[.int .i64 x0, .int .i64 x1, .int .i64 x2, .bool (x3 == 1), .int .i64 0] 56)).alloc (.cells #[.pointer (some ⟨W.heap.size, 0, none⟩)] 115)) 1 (some ⟨W.heap.size + 1, 0, none⟩) 1 [.pointer (some ⟨W.heap.size, 0, none⟩)]) := by
        have h1 := src_new (W.alloc (.cells #[.int .i64 x0, .int .i64 x1, .int .i64 x2, .bool (x3 == 1), .int .i64 0] 56)) #[.pointer (some ⟨W.heap.size, 0, none⟩)] 115 1 1 rfl
        rw [World.size_alloc] at h1
        exact h1
      have HB1 : Hid ((fdsOf ws pre).length + 1 ≤ maxLen) := by show _ ≤ _; unfold maxLen; omega
      have HB2 : Hid (((fdsOf ws pre).length + 1) * 8 ≤ 140737488355328) := by show _ ≤ _; omega
      have HB3 : Hid (w.heap.size + 5 ≤ (((W.alloc (.cells #[.int .i64 x0, .int .i64 x1, .int .i64 x2, .bool (x3 == 1), .int .i64 0] 56)).alloc (.cells #[.pointer (some ⟨W.heap.size, 0, none⟩)] 115)).drew).heap.size) := by show _ ≤ _; rw [heap_drew]; simp; omega
      have hb5 : b < w.heap.size + 5 := by omega
      have qa0 : (W.alloc (.cells #[.int .i64 x0, .int .i64 x1, .int .i64 x2, .bool (x3 == 1), .int .i64 0] 56)).cell? ⟨b, o + 1 + 4 * x, none⟩ = some (.int .u64 x0) := by rw [World.cell?_alloc_lt _ _ _ hbW]; exact q0
      have qa1 : (W.alloc (.cells #[.int .i64 x0, .int .i64 x1, .int .i64 x2, .bool (x3 == 1), .int .i64 0] 56)).cell? ⟨b, o + 1 + 4 * x + 1, none⟩ = some (.int .u64 x1) := by rw [World.cell?_alloc_lt _ _ _ hbW]; exact q1
      have qa2 : (W.alloc (.cells #[.int .i64 x0, .int .i64 x1, .int .i64 x2, .bool (x3 == 1), .int .i64 0] 56)).cell? ⟨b, o + 1 + 4 * x + 2, none⟩ = some (.int .u64 x2) := by rw [World.cell?_alloc_lt _ _ _ hbW]; exact q2
      have qa3 : (W.alloc (.cells #[.int .i64 x0, .int .i64 x1, .int .i64 x2, .bool (x3 == 1), .int .i64 0] 56)).cell? ⟨b, o + 1 + 4 * x + 3, none⟩ = some (.int .u64 x3) := by rw [World.cell?_alloc_lt _ _ _ hbW]; exact q3
      have hbW1 : b < (W.alloc (.cells #[.int .i64 x0, .int .i64 x1, .int .i64 x2, .bool (x3 == 1), .int .i64 0] 56)).heap.size := by rw [World.size_alloc]; omega
      have qb0 : ((W.alloc (.cells #[.int .i64 x0, .int .i64 x1, .int .i64 x2, .bool (x3 == 1), .int .i64 0] 56)).alloc (.cells #[.pointer (some ⟨W.heap.size, 0, none⟩)] 115)).cell? ⟨b, o + 1 + 4 * x, none⟩ = some (.int .u64 x0) := by rw [World.cell?_alloc_lt _ _ _ hbW1]; exact qa0
      have qb1 : ((W.alloc (.cells #[.int .i64 x0, .int .i64 x1, .int .i64 x2, .bool (x3 == 1), .int .i64 0] 56)).alloc (.cells #[.pointer (some ⟨W.heap.size, 0, none⟩)] 115)).cell? ⟨b, o + 1 + 4 * x + 1, none⟩ = some (.int .u64 x1) := by rw [World.cell?_alloc_lt _ _ _ hbW1]; exact qa1
      have qb2 : ((W.alloc (.cells #[.int .i64 x0, .int .i64 x1, .int .i64 x2, .bool (x3 == 1), .int .i64 0] 56)).alloc (.cells #[.pointer (some ⟨W.heap.size, 0, none⟩)] 115)).cell? ⟨b, o + 1 + 4 * x + 2, none⟩ = some (.int .u64 x2) := by rw [World.cell?_alloc_lt _ _ _ hbW1]; exact qa2
      have qb3 : ((W.alloc (.cells #[.int .i64 x0, .int .i64 x1, .int .i64 x2, .bool (x3 == 1), .int .i64 0] 56)).alloc (.cells #[.pointer (some ⟨W.heap.size, 0, none⟩)] 115)).cell? ⟨b, o + 1 + 4 * x + 3, none⟩ = some (.int .u64 x3) := by rw [World.cell?_alloc_lt _ _ _ hbW1]; exact qa3
      have hlo : ∀ (w2 : World), (((W.alloc (.cells #[.int .i64 x0, .int .i64 x1, .int .i64 x2, .bool (x3 == 1), .int .i64 0] 56)).alloc (.cells #[.pointer (some ⟨W.heap.size, 0, none⟩)] 115)).drew).grownBy w2 v.ownBlock → ∀ k, k < w.heap.size + 5 → w2.heap[k]? = W.heap[k]? := by
        intro w2 hg k hk
        rw [hg.block k (by rw [heap_drew]; simp; omega) (fun e => by have := (HP.out.own.lt k e.symm).1; omega), heap_drew, heap_alloc, if_neg (by rw [World.size_alloc]; omega), heap_alloc, if_neg (by omega)]
      have HCL : Hid (∀ (w2 : World), (((W.alloc (.cells #[.int .i64 x0, .int .i64 x1, .int .i64 x2, .bool (x3 == 1), .int .i64 0] 56)).alloc (.cells #[.pointer (some ⟨W.heap.size, 0, none⟩)] 115)).drew).grownBy w2 v.ownBlock → w2.cell? ⟨b, o + 1 + 4 * x, none⟩ = some (.int .u64 x0) ∧ w2.cell? ⟨b, o + 1 + 4 * x + 1, none⟩ = some (.int .u64 x1) ∧ w2.cell? ⟨b, o + 1 + 4 * x + 2, none⟩ = some (.int .u64 x2) ∧ w2.cell? ⟨b, o + 1 + 4 * x + 3, none⟩ = some (.int .u64 x3) ∧ w2.cell? ⟨w.heap.size + 2, 0, none⟩ = some v ∧ w2.frozen? ⟨w.heap.size + 2, 0, none⟩ = false) := by
        intro w2 hg
        have h1 : w2.heap[b]? = W.heap[b]? := hlo w2 hg b hb5
        have h2 : w2.heap[w.heap.size + 2]? = W.heap[w.heap.size + 2]? := hlo w2 hg _ (by omega)
        refine ⟨(World.cell?_of_block h1).trans q0, (World.cell?_of_block h1).trans q1, (World.cell?_of_block h1).trans q2, (World.cell?_of_block h1).trans q3, (World.cell?_of_block h2).trans lb, (World.frozen?_of_block h2).trans lf⟩
      have hbL : b ≠ w.heap.size + 2 := by omega
      have HST : Hid (∀ (w2 : World) (u : Value), w2.cell? ⟨b, o + 1 + 4 * x, none⟩ = some (.int .u64 x0) → w2.cell? ⟨b, o + 1 + 4 * x + 1, none⟩ = some (.int .u64 x1) → w2.cell? ⟨b, o + 1 + 4 * x + 2, none⟩ = some (.int .u64 x2) → w2.cell? ⟨b, o + 1 + 4 * x + 3, none⟩ = some (.int .u64 x3) →
          (w2.setCell ⟨w.heap.size + 2, 0, none⟩ u).cell? ⟨b, o + 1 + 4 * x, none⟩ = some (.int .u64 x0) ∧ (w2.setCell ⟨w.heap.size + 2, 0, none⟩ u).cell? ⟨b, o + 1 + 4 * x + 1, none⟩ = some (.int .u64 x1) ∧ (w2.setCell ⟨w.heap.size + 2, 0, none⟩ u).cell? ⟨b, o + 1 + 4 * x + 2, none⟩ = some (.int .u64 x2) ∧ (w2.setCell ⟨w.heap.size + 2, 0, none⟩ u).cell? ⟨b, o + 1 + 4 * x + 3, none⟩ = some (.int .u64 x3)) := by
        intro w2 u h1 h2 h3 h4
        have hk : (w2.setCell ⟨w.heap.size + 2, 0, none⟩ u).heap[b]? = w2.heap[b]? := heap_setCell_ne _ _ _ _ hbL
        exact ⟨(World.cell?_of_block hk).trans h1, (World.cell?_of_block hk).trans h2, (World.cell?_of_block hk).trans h3, (World.cell?_of_block hk).trans h4⟩
      have HFIN : Hid (∀ (v' : Value) (f' : Nat → Nat) (w3 : World), DecP w (fdsOf ws pre ++ [⟨x0, x1, x2, x3 == 1⟩]) w3 v' f' → DecI w ws N (pre ++ [⟨x, hx⟩]) w3) := by
        intro v' f' w3 h1
        have e1 : fdsOf ws (pre ++ [(⟨x, hx⟩ : ChNo N)]) = fdsOf ws pre ++ [⟨x0, x1, x2, x3 == 1⟩] := by
          unfold fdsOf
          rw [List.map_append, ← HFA.out]; rfl
        refine ⟨⟨v', f', by rw [e1]; exact h1⟩, fun y hy => ?_⟩
        rw [List.mem_append, List.mem_singleton] at hy
        rcases hy with hy | rfl
        · exact HOK.out y hy
        · show fileOk ws x = true
          rw [HGD.out]
      clear hlo hsz
      gi_wp2
      refine wpIn_round_region (by kernel_rfl) (by kernel_rfl) hno ?_
      refine wpAny_of_held (S := fun w' => w'.cell? ⟨b, o + 1 + 4 * x, none⟩ = some (.int .u64 x0) ∧ w'.cell? ⟨b, o + 1 + 4 * x + 1, none⟩ = some (.int .u64 x1) ∧ w'.cell? ⟨b, o + 1 + 4 * x + 2, none⟩ = some (.int .u64 x2) ∧ w'.cell? ⟨b, o + 1 + 4 * x + 3, none⟩ = some (.int .u64 x3)) _ _ _ _ ?_
      refine take_d (i := 1) (some 69) (.slice (some ⟨b, o + 1 + 4 * x, none⟩) 4 4) rfl rfl rfl (by kernel_rfl) (by kernel_rfl) (by kernel_rfl) (fun _ _ _ h => h) (fun w' hS => ?_) ⟨q0, q1, q2, q3⟩ ?_
      · obtain ⟨s1, s2, s3, s4⟩ := hS
        go_simp
      refine take_d (i := 2) (some 70) (.pointer (some ⟨b, o + 1 + 4 * x, none⟩)) rfl rfl rfl (by kernel_rfl) (by kernel_rfl) (by kernel_rfl) (fun _ _ _ h => h) (fun w' hS => ?_) ⟨q0, q1, q2, q3⟩ ?_
      · obtain ⟨s1, s2, s3, s4⟩ := hS
        go_simp
      refine take_d (i := 3) (some 71) (.int .u64 x0) rfl rfl rfl (by kernel_rfl) (by kernel_rfl) (by kernel_rfl) (fun _ _ _ h => h) (fun w' hS => ?_) ⟨q0, q1, q2, q3⟩ ?_
      · obtain ⟨s1, s2, s3, s4⟩ := hS
        go_simp
      refine take_d (i := 4) (some 72) (.int .i64 x0) rfl rfl rfl (by kernel_rfl) (by kernel_rfl) (by kernel_rfl) (fun _ _ _ h => h) (fun w' hS => ?_) ⟨q0, q1, q2, q3⟩ ?_
      · obtain ⟨s1, s2, s3, s4⟩ := hS
        go_simp
        exact wrap_s64 p0 (by omega)
      refine take_d (i := 5) (some 73) (.slice (some ⟨b, o + 1 + 4 * x, none⟩) 4 4) rfl rfl rfl (by kernel_rfl) (by kernel_rfl) (by kernel_rfl) (fun _ _ _ h => h) (fun w' hS => ?_) ⟨q0, q1, q2, q3⟩ ?_
      · obtain ⟨s1, s2, s3, s4⟩ := hS
        go_simp
      refine take_d (i := 6) (some 74) (.pointer (some ⟨b, o + 1 + 4 * x + 1, none⟩)) rfl rfl rfl (by kernel_rfl) (by kernel_rfl) (by kernel_rfl) (fun _ _ _ h => h) (fun w' hS => ?_) ⟨q0, q1, q2, q3⟩ ?_
      · obtain ⟨s1, s2, s3, s4⟩ := hS
        go_simp
      refine take_d (i := 7) (some 75) (.int .u64 x1) rfl rfl rfl (by kernel_rfl) (by kernel_rfl) (by kernel_rfl) (fun _ _ _ h => h) (fun w' hS => ?_) ⟨q0, q1, q2, q3⟩ ?_
      · obtain ⟨s1, s2, s3, s4⟩ := hS
        go_simp
      refine take_d (i := 8) (some 76) (.int .i64 x1) rfl rfl rfl (by kernel_rfl) (by kernel_rfl) (by kernel_rfl) (fun _ _ _ h => h) (fun w' hS => ?_) ⟨q0, q1, q2, q3⟩ ?_
      · obtain ⟨s1, s2, s3, s4⟩ := hS
        go_simp
        exact wrap_s64 p1 (by omega)
      refine take_d (i := 9) (some 77) (.slice (some ⟨b, o + 1 + 4 * x, none⟩) 4 4) rfl rfl rfl (by kernel_rfl) (by kernel_rfl) (by kernel_rfl) (fun _ _ _ h => h) (fun w' hS => ?_) ⟨q0, q1, q2, q3⟩ ?_
      · obtain ⟨s1, s2, s3, s4⟩ := hS
        go_simp
      refine take_d (i := 10) (some 78) (.pointer (some ⟨b, o + 1 + 4 * x + 2, none⟩)) rfl rfl rfl (by kernel_rfl) (by kernel_rfl) (by kernel_rfl) (fun _ _ _ h => h) (fun w' hS => ?_) ⟨q0, q1, q2, q3⟩ ?_
      · obtain ⟨s1, s2, s3, s4⟩ := hS
        go_simp
      refine take_d (i := 11) (some 79) (.int .u64 x2) rfl rfl rfl (by kernel_rfl) (by kernel_rfl) (by kernel_rfl) (fun _ _ _ h => h) (fun w' hS => ?_) ⟨q0, q1, q2, q3⟩ ?_
      · obtain ⟨s1, s2, s3, s4⟩ := hS
        go_simp
      refine take_d (i := 12) (some 80) (.int .i64 x2) rfl rfl rfl (by kernel_rfl) (by kernel_rfl) (by kernel_rfl) (fun _ _ _ h => h) (fun w' hS => ?_) ⟨q0, q1, q2, q3⟩ ?_
      · obtain ⟨s1, s2, s3, s4⟩ := hS
        go_simp
        exact wrap_s64 p2 (by omega)
      refine take_d (i := 13) (some 81) (.slice (some ⟨b, o + 1 + 4 * x, none⟩) 4 4) rfl rfl rfl (by kernel_rfl) (by kernel_rfl) (by kernel_rfl) (fun _ _ _ h => h) (fun w' hS => ?_) ⟨q0, q1, q2, q3⟩ ?_
      · obtain ⟨s1, s2, s3, s4⟩ := hS
        go_simp
      refine take_d (i := 14) (some 82) (.pointer (some ⟨b, o + 1 + 4 * x + 3, none⟩)) rfl rfl rfl (by kernel_rfl) (by kernel_rfl) (by kernel_rfl) (fun _ _ _ h => h) (fun w' hS => ?_) ⟨q0, q1, q2, q3⟩ ?_
      · obtain ⟨s1, s2, s3, s4⟩ := hS
        go_simp
      refine take_d (i := 15) (some 83) (.int .u64 x3) rfl rfl rfl (by kernel_rfl) (by kernel_rfl) (by kernel_rfl) (fun _ _ _ h => h) (fun w' hS => ?_) ⟨q0, q1, q2, q3⟩ ?_
      · obtain ⟨s1, s2, s3, s4⟩ := hS
        go_simp
      refine take_d (i := 16) (some 84) (.bool (x3 == 1)) rfl rfl rfl (by kernel_rfl) (by kernel_rfl) (by kernel_rfl) (fun _ _ _ h => h) (fun w' hS => ?_) ⟨q0, q1, q2, q3⟩ ?_
      · obtain ⟨s1, s2, s3, s4⟩ := hS
        go_simp
      refine take_d (i := 17) (some 85) (.agg #[.int .i64 x0, .int .i64 x1, .int .i64 x2, .bool (x3 == 1), .int .i64 0]) rfl rfl rfl (by kernel_rfl) (by kernel_rfl) (by kernel_rfl) (fun _ _ _ h => h) (fun w' hS => ?_) ⟨q0, q1, q2, q3⟩ ?_
      · obtain ⟨s1, s2, s3, s4⟩ := hS
        go_simp
      change wpAnyH _ _ _ _ _ _ _ _ (World.drew W)
      refine wpAnyH_ready (rs := [0, 18]) (by kernel_rfl) (by decide) (ready_d rfl rfl (fun K1 hK1 => ?_) (ready_d rfl rfl (fun K1 hK1 => ?_) AllReadyH.nil))
      · skip
        simp only [List.getElem_toArray, List.getElem_cons_zero]
        go_simp
        refine hK1.out _ _ ⟨q0, q1, q2, q3⟩ (fun _ => ?_)
        refine wpAnyH_ready (rs := [18]) (by kernel_rfl) (by decide) (ready_d rfl rfl (fun K1 hK1 => ?_) AllReadyH.nil)
        simp only [List.getElem_toArray, List.getElem_cons_zero, List.getElem_cons_succ]
        go_simp
        refine hK1.out _ _ ⟨qa0, qa1, qa2, qa3⟩ (fun _ => ?_)
        refine wpAnyH_ready (rs := [19]) (by kernel_rfl) (by decide) (ready_d rfl rfl (fun K1 hK1 => ?_) AllReadyH.nil)
        simp only [List.getElem_toArray, List.getElem_cons_zero, List.getElem_cons_succ]
        go_simp
        refine hK1.out _ _ ⟨qb0, qb1, qb2, qb3⟩ (fun _ => ?_)
        refine wpAnyH_ready (rs := [20]) (by kernel_rfl) (by decide) (ready_d rfl rfl (fun K1 hK1 => ?_) AllReadyH.nil)
        simp only [List.getElem_toArray, List.getElem_cons_zero, List.getElem_cons_succ]
        refine wp_append_src _ _ 111 rfl (w.heap.size + 5) 115 i0 _ 1 8 Try.underlying111 hi0 hz0 hz1 hz2 rfl (by decide) _ _ _ rfl (((HP.out.own.alloc _).alloc _).drew) _ _ _ [.pointer (some ⟨W.heap.size, 0, none⟩)] rfl HSRC.out.drew (by simp [Value.oneCell']) HB1.out HB2.out HB3.out ?_
        intro A2 c2 w2 hown2 hg2 _
        have hsn := HP.out.snoc ⟨x0, x1, x2, x3 == 1⟩ hg2 hown2
        have HSN := Lib.hid hsn
        obtain ⟨t0, t1, t2, t3, t4, t5⟩ := HCL.out w2 hg2
        refine hK1.out _ _ ⟨t0, t1, t2, t3⟩ (fun _ => ?_)
        clear hsn hown2 hg2
        refine wpAnyH_ready (rs := [21]) (by kernel_rfl) (by decide) (ready_d rfl rfl (fun K1 hK1 => ?_) AllReadyH.nil)
        simp only [List.getElem_toArray, List.getElem_cons_zero, List.getElem_cons_succ]
        go_simp
        refine hK1.out _ _ (HST.out _ _ t0 t1 t2 t3) (fun _ => ?_)
        refine wpAnyH_done (by kernel_rfl) ?_ _
        exact ⟨HSN.out.2.2.from _, HSN.out.2.1, HFIN.out _ _ _ HSN.out.1⟩
      · skip
        simp only [List.getElem_toArray, List.getElem_cons_zero, List.getElem_cons_succ]
        go_simp
        refine hK1.out _ _ ⟨qa0, qa1, qa2, qa3⟩ (fun _ => ?_)
        refine wpAnyH_ready (rs := [0, 19]) (by kernel_rfl) (by decide) (ready_d rfl rfl (fun K1 hK1 => ?_) (ready_d rfl rfl (fun K1 hK1 => ?_) AllReadyH.nil))
        · skip
          simp only [List.getElem_toArray, List.getElem_cons_zero]
          go_simp
          refine hK1.out _ _ ⟨qa0, qa1, qa2, qa3⟩ (fun _ => ?_)
          refine wpAnyH_ready (rs := [19]) (by kernel_rfl) (by decide) (ready_d rfl rfl (fun K1 hK1 => ?_) AllReadyH.nil)
          simp only [List.getElem_toArray, List.getElem_cons_zero, List.getElem_cons_succ]
          go_simp
          refine hK1.out _ _ ⟨qb0, qb1, qb2, qb3⟩ (fun _ => ?_)
          refine wpAnyH_ready (rs := [20]) (by kernel_rfl) (by decide) (ready_d rfl rfl (fun K1 hK1 => ?_) AllReadyH.nil)
          simp only [List.getElem_toArray, List.getElem_cons_zero, List.getElem_cons_succ]
          refine wp_append_src _ _ 111 rfl (w.heap.size + 5) 115 i0 _ 1 8 Try.underlying111 hi0 hz0 hz1 hz2 rfl (by decide) _ _ _ rfl (((HP.out.own.alloc _).alloc _).drew) _ _ _ [.pointer (some ⟨W.heap.size, 0, none⟩)] rfl HSRC.out.drew (by simp [Value.oneCell']) HB1.out HB2.out HB3.out ?_
          intro A2 c2 w2 hown2 hg2 _
          have hsn := HP.out.snoc ⟨x0, x1, x2, x3 == 1⟩ hg2 hown2
          have HSN := Lib.hid hsn
          obtain ⟨t0, t1, t2, t3, t4, t5⟩ := HCL.out w2 hg2
          refine hK1.out _ _ ⟨t0, t1, t2, t3⟩ (fun _ => ?_)
          clear hsn hown2 hg2
          refine wpAnyH_ready (rs := [21]) (by kernel_rfl) (by decide) (ready_d rfl rfl (fun K1 hK1 => ?_) AllReadyH.nil)
          simp only [List.getElem_toArray, List.getElem_cons_zero, List.getElem_cons_succ]
          go_simp
          refine hK1.out _ _ (HST.out _ _ t0 t1 t2 t3) (fun _ => ?_)
          refine wpAnyH_done (by kernel_rfl) ?_ _
          exact ⟨HSN.out.2.2.from _, HSN.out.2.1, HFIN.out _ _ _ HSN.out.1⟩
        · skip
          simp only [List.getElem_toArray, List.getElem_cons_zero, List.getElem_cons_succ]
          go_simp
          refine hK1.out _ _ ⟨qb0, qb1, qb2, qb3⟩ (fun _ => ?_)
          refine wpAnyH_ready (rs := [0]) (by kernel_rfl) (by decide) (ready_d rfl rfl (fun K1 hK1 => ?_) AllReadyH.nil)
          simp only [List.getElem_toArray, List.getElem_cons_zero]
          go_simp
          refine hK1.out _ _ ⟨qb0, qb1, qb2, qb3⟩ (fun _ => ?_)
          refine wpAnyH_ready (rs := [20]) (by kernel_rfl) (by decide) (ready_d rfl rfl (fun K1 hK1 => ?_) AllReadyH.nil)
          simp only [List.getElem_toArray, List.getElem_cons_zero, List.getElem_cons_succ]
          refine wp_append_src _ _ 111 rfl (w.heap.size + 5) 115 i0 _ 1 8 Try.underlying111 hi0 hz0 hz1 hz2 rfl (by decide) _ _ _ rfl (((HP.out.own.alloc _).alloc _).drew) _ _ _ [.pointer (some ⟨W.heap.size, 0, none⟩)] rfl HSRC.out.drew (by simp [Value.oneCell']) HB1.out HB2.out HB3.out ?_
          intro A2 c2 w2 hown2 hg2 _
          have hsn := HP.out.snoc ⟨x0, x1, x2, x3 == 1⟩ hg2 hown2
          have HSN := Lib.hid hsn
          obtain ⟨t0, t1, t2, t3, t4, t5⟩ := HCL.out w2 hg2
          refine hK1.out _ _ ⟨t0, t1, t2, t3⟩ (fun _ => ?_)
          clear hsn hown2 hg2
          refine wpAnyH_ready (rs := [21]) (by kernel_rfl) (by decide) (ready_d rfl rfl (fun K1 hK1 => ?_) AllReadyH.nil)
          simp only [List.getElem_toArray, List.getElem_cons_zero, List.getElem_cons_succ]
          go_simp
          refine hK1.out _ _ (HST.out _ _ t0 t1 t2 t3) (fun _ => ?_)
          refine wpAnyH_done (by kernel_rfl) ?_ _
          exact ⟨HSN.out.2.2.from _, HSN.out.2.1, HFIN.out _ _ _ HSN.out.1⟩
    · have hbad : fileOk ws x = false := by
        rw [hfo]
        simp only [Bool.and_eq_false_iff, decide_eq_false_iff_not]
        omega
      have HX : Hid (DecX w ws N .ret (pre ++ [⟨x, hx⟩]) ((W.setCell ⟨w.heap.size, 0, none⟩ (.pointer none)).setCell ⟨w.heap.size + 1, 0, none⟩ (.int .i64 101))) := by
        refine ⟨rfl, (HP.out.bel.setCell (p := ⟨w.heap.size, 0, none⟩) (Nat.le_refl _) _).setCell (p := ⟨w.heap.size + 1, 0, none⟩) (by show w.heap.size ≤ w.heap.size + 1; omega) _, ?_, ?_, ⟨x, hx⟩, by simp, hbad⟩
        · rw [heap_setCell_ne _ _ _ _ (by show w.heap.size ≠ w.heap.size + 1; omega), heap_setCell_eq HP.out.r0]; rfl
        · rw [heap_setCell_eq (by rw [heap_setCell_ne _ _ _ _ (by show w.heap.size + 1 ≠ w.heap.size; omega)]; exact HP.out.r1)]; rfl
      have hcs : x0 < 1 ∨ (1 ≤ x0 ∧ 4 < x0) ∨ (1 ≤ x0 ∧ x0 ≤ 4 ∧ 1048576 < x1) ∨ (1 ≤ x0 ∧ x0 ≤ 4 ∧ x1 ≤ 1048576 ∧ 1048576 < x2) ∨ (1 ≤ x0 ∧ x0 ≤ 4 ∧ x1 ≤ 1048576 ∧ x2 ≤ 1048576 ∧ 1 < x3) := by omega
      clear hfo hgood hbad
      rcases hcs with h1 | ⟨h1, h2⟩ | ⟨h1, h2, h3⟩ | ⟨h1, h2, h3, h4⟩ | ⟨h1, h2, h3, h4, h5⟩
      all_goals
        gi_wp2
        exact ⟨((KeepsOthers.setCell _ _ _).trans (KeepsOthers.setCell _ _ _)).from _, HX.out⟩
  case done =>
    rintro D ys W hD hys ⟨⟨v, f, hP⟩, hok⟩ hK
    have hxs : fdsOf ws ys = (List.range N).map (fileAt ws) := by unfold fdsOf; rw [← hys, List.map_map]; rfl
    have hfo : ∀ k, k < N → fileOk ws k = true := fun k hk => by
      have h1 : k ∈ ys.map (·.1) := by rw [hys]; exact List.mem_range.2 hk
      obtain ⟨x, hx, rfl⟩ := List.mem_map.1 h1
      exact hok x hx
    have hQ0 := DecQ.start hP HN.out hxs hK
    have HFO := Lib.hid hfo
    have HQ0 := Lib.hid hQ0
    clear hys hok hfo hxs hQ0
    have lb : W.heap[w.heap.size + 2]? = some (.cells #[v] 111 (0, 0)) := hP.lb
    clear hP hK lb
    gi_wp2
    refine ⟨trivial, (callsIn_wide.2 (newF _)).mono ?_⟩
    rintro y w2 ⟨rfl, hw2⟩
    obtain ⟨g, hgd⟩ : ∃ g, g = W.heap.size := ⟨_, rfl⟩
    rw [hw2, ← hgd] at HQ0
    rw [← hgd]
    clear hw2 hgd
    obtain ⟨A, c, hv, hcl⟩ := ownCells HQ0.out.own
    subst hv
    have HCL := Lib.hid hcl
    have lb : w2.cell? ⟨w.heap.size + 2, 0, none⟩ = some (.slice A N c) := by rw [cell_of_heap HQ0.out.lb]; rfl
    have j1 : 1 + 4 * N ≤ len := by have := HL2.out; omega
    have j2 : ¬ cap = 1 + 4 * N := by have := HL2.out; omega
    have j3 : ¬ (cap : Int) = 1 + 4 * (N : Int) := by have := HL2.out; omega
    have j4 : len - (1 + 4 * N) = 48 := by have := HL2.out; omega
    have j5 : (len : Int) - (1 + 4 * (N : Int)) = 48 := by have := HL2.out; omega
    clear hcl
    gi_wp2
    clear j4 j5 lb
    gi_loopw [97] (fun i wr => ∃ k : Nat, k ≤ 48 ∧ i = .int .i64 k ∧ DecQ w ws N g D (.slice A N c) f k wr) (fun i _ => 48 - (intOf i).toNat)
    case atStart => exact ⟨0, by omega, rfl, HQ0.out⟩
    case round =>
      clear HQ0
      obtain ⟨k, hk, rfl, hQ⟩ := hrel
      have HQ := Lib.hid hQ
      by_cases hk48 : k < 48
      · have lb : wr.cell? ⟨w.heap.size + 2, 0, none⟩ = some (.slice A N c) := by rw [cell_of_heap hQ.lb]; rfl
        have q0 : wr.cell? ⟨b, o + (1 + 4 * N) + k, none⟩ = some (.int .u64 (descAt ws k)) := by
          rw [hQ.bel.cell hb, Nat.add_assoc]
          unfold descAt
          rw [← HN.out]
          exact HC.out _ (by rw [← HLE.out, HL2.out]; omega)
        have d0 : 0 ≤ descAt ws k := wdA_nonneg HW.out _
        have dmax : descAt ws k ≤ 18446744073709551615 := by
          unfold descAt wdA
          cases hx : ws[1 + 4 * nFiles ws + k]? with
          | none => simp
          | some y => exact (HW.out y (List.mem_of_getElem? hx)).2
        obtain ⟨d, hd⟩ : ∃ d, d = descAt ws k := ⟨_, rfl⟩
        rw [← hd] at q0 d0 dmax
        have HD := Lib.hid hd
        have ik : (k : Int) < 48 := by omega
        have ik2 : (k : Int) < ((len - (1 + 4 * N) : Nat) : Int) := by have := HL2.out; omega
        clear hd hQ
        by_cases hdN : (N : Int) < d
        · have HDN := Lib.hid (decode_desc hk48 (by rw [← HN.out, ← HD.out]; exact hdN))
          have r0 : wr.cell? ⟨w.heap.size, 0, none⟩ = some (.pointer none) := by rw [cell_of_heap HQ.out.r0]; rfl
          have r1 : wr.cell? ⟨w.heap.size + 1, 0, none⟩ = some (.int .i64 0) := by rw [cell_of_heap HQ.out.r1]; rfl
          have f0 : wr.frozen? ⟨w.heap.size, 0, none⟩ = false := frozen_of_heap HQ.out.r0 _
          have f1 : wr.frozen? ⟨w.heap.size + 1, 0, none⟩ = false := frozen_of_heap HQ.out.r1 _
          have HE := Lib.hid (fun W' hs => DecEnd.mk' (W' := W') HQ.out.bel HQ.out.r0 HQ.out.r1 HQ.out.dfr (.pointer none) 101 hs)
          clear HQ
          gi_wp2
          obtain ⟨e1, e2, e3, e4⟩ := HE.out _ (Same.refl _)
          refine ⟨by simp, .inl ⟨_, _, rfl, run_takeDeferred e4, ?_⟩⟩
          have k0 := cell_kept e2 (grownBy_putObj' _ D (.deferred none)) (fun r e => by cases e; exact ⟨_, e4, rfl⟩)
          have k1 := cell_kept e3 (grownBy_putObj' _ D (.deferred none)) (fun r e => by cases e; exact ⟨_, e4, rfl⟩)
          refine ⟨.tuple #[.pointer none, .int .i64 101], ?_, e1.trans (belowK_b (w := w) (Nat.le_refl _) _ D _ _ (by omega) e4 rfl rfl), .inl ⟨HDN.out, rfl⟩⟩
          simp [results, Try.f20, go_sem, k0, k1]
        · by_cases hd0 : d = 0
          · have HN2 := Lib.hid (HQ.out.skip hk48 (by rw [← HD.out]; exact hd0))
            subst hd0
            clear HQ
            gi_wp2
            go_roundw
            case rel => exact ⟨k + 1, by omega, by go_num, HN2.out⟩
            case measure => simp [intOf]; omega
          · obtain ⟨m, hm⟩ : ∃ m : Nat, d = (m : Int) + 1 := ⟨(d - 1).toNat, by omega⟩
            subst hm
            have hmN : m < N := by omega
            have hml : m < (decTo ws k).x.length := by rw [decTo_x, ← HN.out]; simpa using hmN
            have HLK := Lib.hid (fun W' hs => HQ.out.link (W' := W') HW.out HN.out hk48 HD.out.symm hmN hs)
            obtain ⟨_, _, _, _, n4, nf⟩ := HQ.out.rep.fcell hml
            have nf4 := nf 4
            obtain ⟨t0, tf⟩ := HQ.out.rep.cell k hk48
            rw [decTo_get, if_pos hk48, if_neg (by omega)] at t0
            have hne : f m ≠ g := HQ.out.rep.ne hml
            have hne' : ¬ g = f m := fun e => hne e.symm
            have hge := HQ.out.ge.2 m hmN
            have hgg := HQ.out.ge.1
            obtain ⟨A2, c2, hv2, hcl2⟩ := ownCells HQ.out.own
            injection hv2 with hv2 _ hv3
            subst hv2
            subst hv3
            obtain ⟨gr, rfl, hgr, hgrl, hcl3⟩ := hcl2 (by omega)
            have p0 : wr.cell? ⟨gr, m, none⟩ = some (.pointer (some ⟨f m, 0, none⟩)) := hcl3 m _ (by unfold filePtrs; simp [hmN])
            have hrg : gr ≠ g := fun e => by
              obtain ⟨tc, ht1, _⟩ := HQ.out.rep.tab
              rcases HQ.out.own.2 with ⟨hv, _⟩ | ⟨r, cap, cur, hv, _, hh, _⟩
              · cases hv
              · injection hv with hv
                injection hv with hv
                injection hv with hv _
                subst hv
                rw [e, ht1] at hh
                injection hh with hh
                injection hh with _ hh
                exact absurd hh (by decide)
            have hrn := FM.refs_nonneg (decTo ws k) m
            have hrl : (decTo ws k).refs m ≤ 48 := FM.refs_le (decTo_wf HW.out (fun j hj => by rw [← HN.out]; exact HQ.out.ok j hj)) m
            obtain ⟨rf, hrf⟩ : ∃ rf, rf = (decTo ws k).refs m := ⟨_, rfl⟩
            rw [← hrf] at HLK n4 hrn hrl
            have hLg : ¬ g = w.heap.size + 2 := by omega
            have hLf : ¬ f m = w.heap.size + 2 := by omega
            obtain ⟨fm, hfm⟩ : ∃ fm, fm = f m := ⟨_, rfl⟩
            rw [← hfm] at HLK n4 nf4 hne hne' hge p0 hLf
            have im : (m : Int) < (N : Int) := by omega
            clear HQ nf hcl2 hcl3 hrf hfm HD hml
            obtain ⟨q, j, hqj, hq8, hj6⟩ : ∃ q j : Nat, k = q * 6 + j ∧ q < 8 ∧ j < 6 := ⟨k / 6, k % 6, by omega, by omega, by omega⟩
            have HQJ := Lib.hid hqj
            have e1 : (k : Int).tdiv 6 = (q : Int) := by rw [Int.tdiv_eq_ediv_of_nonneg (by omega)]; omega
            have e2 : (k : Int) / 6 = (q : Int) := by omega
            have e3 : (k : Int).tmod 6 = (j : Int) := by rw [Int.tmod_eq_emod_of_nonneg (by omega)]; omega
            have e4 : (k : Int) % 6 = (j : Int) := by omega
            have iq : (q : Int) < 8 := by omega
            have ij : (j : Int) < 6 := by omega
            have e5 : IntKind.i64.wrap (q : Int) = (q : Int) := wrap_s64 (by omega) (by omega)
            have e6 : IntKind.u64.wrap (m : Int) = (m : Int) := wrap_u64 (by omega) (by omega)
            rw [hqj] at t0 tf
            clear hqj
            gi_wp2
            refine wpIn_wide.2 ?_
            go_still_tail 14, (by kernel_rfl)
            go_wp2
            obtain ⟨wz, hwz⟩ : ∃ wz : World, wz = (wr.setCell ⟨g, q * 6 + j, none⟩ (.pointer (some ⟨fm, 0, none⟩))).drew := ⟨_, rfl⟩
            rw [← hwz]
            have hZ : Same wz (wr.setCell ⟨g, q * 6 + j, none⟩ (.pointer (some ⟨fm, 0, none⟩))) := by rw [hwz]; exact ⟨rfl, rfl, rfl, rfl⟩
            have hzb : ∀ k, k ≠ g → wz.heap[k]? = wr.heap[k]? := fun k hk => by rw [hZ.1, heap_setCell_ne _ _ _ _ hk]
            have lb2 : wz.cell? ⟨w.heap.size + 2, 0, none⟩ = some (.slice (some ⟨gr, 0, none⟩) N c) := (World.cell?_of_block (hzb _ (fun e => hLg e.symm))).trans lb
            have p02 : wz.cell? ⟨gr, m, none⟩ = some (.pointer (some ⟨fm, 0, none⟩)) := (World.cell?_of_block (hzb _ hrg)).trans p0
            have n42 : wz.cell? ⟨fm, 4, none⟩ = some (.int .i64 rf) := (World.cell?_of_block (hzb _ hne)).trans n4
            have nf42 : wz.frozen? ⟨fm, 4, none⟩ = false := (World.frozen?_of_block (hzb _ hne)).trans nf4
            have HEND := Lib.hid (HLK.out (wz.setCell ⟨fm, 4, none⟩ (.int .i64 (rf + 1))) (by
              rw [HQJ.out]
              obtain ⟨z1, z2, z3, z4⟩ := hZ
              exact ⟨by simp only [World.setCell]; rw [z1]; rfl, z2, z3, z4⟩))
            clear hwz hZ hzb lb p0 n4 nf4 t0 tf e1 e2 e3 e4 e5 e6 q0 HLK
            gi_wp2
            go_roundw
            case rel => exact ⟨k + 1, by omega, by go_num, HEND.out⟩
            case measure => simp [intOf]; omega
      · have hk48' : k = 48 := by omega
        subst hk48'
        have hlt := hQ.lt
        have hFds := hQ.fds HW.out HN.out
        have hdk : ∀ j, j < 48 → descAt ws j ≤ (nFiles ws : Nat) := fun j hj => by rw [← HN.out]; exact hQ.ok j hj
        have henc := fencode hFds (decM_okW HW.out (fun k hk => HFO.out k (by rw [HN.out]; exact hk)) hdk)
        have HDK := Lib.hid hdk
        have HF := Lib.hid hFds
        clear hQ hFds hdk
        gi_wp2
        refine ⟨trivial, (callsIn_wide.2 henc).mono ?_⟩
        rintro y w3 ⟨v3, rfl, hown3, hb3⟩
        have hrd1 : Rd w3 v3 ((decM ws).encode.map (Value.int .u64)) := Rd.of_own hown3
        have hbel3 := HQ.out.bel.trans (hb3.mono HQ.out.bel.size)
        have hrd2 : Rd w3 (.slice (some ⟨b, o, none⟩) len cap) (ws.map (Value.int .u64)) := by
          refine ⟨_, _, by rw [List.length_map, ← HLE.out], fun _ => ⟨b, o, rfl, Nat.lt_of_lt_of_le hb hbel3.size, fun j u hu => ?_⟩⟩
          rw [List.getElem?_map] at hu
          cases hj : ws[j]? with
          | none => rw [hj] at hu; cases hu
          | some z =>
            rw [hj] at hu
            injection hu with hu
            subst hu
            have hjl := (List.getElem?_eq_some_iff.1 hj).1
            rw [hbel3.cell hb, HC.out j hjl]
            unfold wdA
            rw [hj]; rfl
        have henl : (decM ws).encode.length ≤ 9223372036854775807 := by
          rw [encode_len HF.out.wf]
          have := files_le HF.out.wf
          omega
        have heq := equal_u w3 v3 _ _ _ hrd1 hrd2 henl
        obtain ⟨eb, heb⟩ : ∃ eb, eb = eqInts (decM ws).encode ws := ⟨_, rfl⟩
        rw [← heb] at heq
        have HEB := Lib.hid heb
        have hQ3 : Below wr.heap.size wr w3 := hb3
        have r0 : w3.heap[w.heap.size]? = some (.cells #[.pointer none] 43 (0, 0)) := by rw [hb3.block _ (lt_of_heap HQ.out.r0)]; exact HQ.out.r0
        have r1 : w3.heap[w.heap.size + 1]? = some (.cells #[.int .i64 0] 44 (0, 0)) := by rw [hb3.block _ (lt_of_heap HQ.out.r1)]; exact HQ.out.r1
        have hDl : D < wr.heap.size := by
          have h8 := HQ.out.dfr
          rcases Nat.lt_or_ge D wr.heap.size with h' | h'
          · exact h'
          · rw [Array.getElem?_eq_none h'] at h8; cases h8
        have dd : w3.heap[D]? = some (.deferred (some [])) := by rw [hb3.block _ hDl]; exact HQ.out.dfr
        have hF3 := HF.out.below hb3
        clear hrd1 hrd2 henl heb hown3 henc
        gi_wp2
        refine ⟨trivial, (callsIn_wide.2 heq).mono ?_⟩
        rintro y w4 ⟨rfl, hs4⟩
        have q0 : w4.heap[w.heap.size]? = some (.cells #[.pointer none] 43 (0, 0)) := by rw [hs4.1]; exact r0
        have q1 : w4.heap[w.heap.size + 1]? = some (.cells #[.int .i64 0] 44 (0, 0)) := by rw [hs4.1]; exact r1
        have dd4 : w4.heap[D]? = some (.deferred (some [])) := by rw [hs4.1]; exact dd
        have hb4 : Below w.heap.size w w4 := below_same hbel3 hs4
        have hF4 : Fds w4 g (decM ws) (fun k => w.heap.size + 5 ≤ k ∧ k < wr.heap.size) := hF3.below (below_same (Below.refl _ _) hs4)
        have HE := Lib.hid (fun p e W' hs => DecEnd.mk' (W' := W') hb4 q0 q1 dd4 p e hs)
        have HF4 := Lib.hid hF4
        have s0 : w4.cell? ⟨w.heap.size, 0, none⟩ = some (.pointer none) := by rw [cell_of_heap q0]; rfl
        have s1 : w4.cell? ⟨w.heap.size + 1, 0, none⟩ = some (.int .i64 0) := by rw [cell_of_heap q1]; rfl
        have f0 : w4.frozen? ⟨w.heap.size, 0, none⟩ = false := frozen_of_heap q0 _
        have f1 : w4.frozen? ⟨w.heap.size + 1, 0, none⟩ = false := frozen_of_heap q1 _
        have hsz4 : w3.heap.size = w4.heap.size := by rw [hs4.1]
        have hle4 : wr.heap.size ≤ w4.heap.size := by rw [← hsz4]; exact hb3.size
        clear heq hs4 q0 q1 dd4 hF4 r0 r1 dd hF3 HF HQ hbel3 hb3 hQ3 hsz4
        cases eb with
        | false =>
          have HDN := Lib.hid (decode_neq HEB.out.symm)
          gi_wp2
          obtain ⟨e1, e2, e3, e4⟩ := HE.out _ _ _ (Same.refl _)
          refine ⟨by simp, .inl ⟨_, _, rfl, run_takeDeferred e4, ?_⟩⟩
          have k0 := cell_kept e2 (grownBy_putObj' _ D (.deferred none)) (fun r e => by cases e; exact ⟨_, e4, rfl⟩)
          have k1 := cell_kept e3 (grownBy_putObj' _ D (.deferred none)) (fun r e => by cases e; exact ⟨_, e4, rfl⟩)
          refine ⟨.tuple #[.pointer none, .int .i64 101], ?_, e1.trans (belowK_b (w := w) (Nat.le_refl _) _ D _ _ (by omega) e4 rfl rfl), .inl ⟨HDN.out, rfl⟩⟩
          simp [results, Try.f20, go_sem, k0, k1]
        | true =>
          have HOKD : Hid (decode ws = some (decM ws)) := by
            refine decode_ok ?_ (fun k hk => HFO.out k (by rw [HN.out]; exact hk)) HDK.out HEB.out.symm
            have h1 := HL2.out
            unfold hdrOk
            have h2 : wdA ws 0 = (N : Int) := by rw [HN.out]; unfold nFiles; have := wdA_nonneg HW.out 0; omega
            have h3 := HLE.out
            have h4 := HN.out
            simp only [Bool.and_eq_true, decide_eq_true_eq]
            omega
          have HFE : Hid (∀ W', Same W' ((w4.setCell ⟨w.heap.size, 0, none⟩ (.pointer (some ⟨g, 0, none⟩))).setCell ⟨w.heap.size + 1, 0, none⟩ (.int .i64 0)) → Fds (W'.putObj D (.deferred none)) g (decM ws) (fun k => w.heap.size ≤ k ∧ k < (W'.putObj D (.deferred none)).heap.size)) := by
            intro W' hs
            have hE := HE.out _ _ _ hs
            have hWs : W'.heap.size = w4.heap.size := by rw [hs.1]; simp [World.setCell]
            have hm : Mod (fun j => j = w.heap.size ∨ j = w.heap.size + 1 ∨ j = D) w4 (W'.putObj D (.deferred none)) := by
              have h1 : Mod (fun j => j = w.heap.size ∨ j = w.heap.size + 1) w4 W' := (((Mod.refl (fun j => j = w.heap.size ∨ j = w.heap.size + 1) w4).setCell (p := ⟨w.heap.size, 0, none⟩) (fun _ => .inl rfl) _).setCell (p := ⟨w.heap.size + 1, 0, none⟩) (fun _ => .inr rfl) _).same hs
              refine ⟨h1.os, h1.tape, h1.output, by simp; exact h1.size, fun i hi hF => ?_⟩
              rw [World.putObj_heap_other (fun e => hF (.inr (.inr e)))]
              exact h1.block i hi (fun h => hF (h.elim .inl (fun h => .inr (.inl h))))
            have hDF : ¬ (w.heap.size + 5 ≤ D ∧ D < wr.heap.size) → True := fun _ => trivial
            have hF5 : Fds w4 g (decM ws) (fun k => (w.heap.size + 5 ≤ k ∧ k < wr.heap.size) ∧ k ≠ D) := by
              obtain ⟨z1, z2, ff, z3, z4, z5⟩ := HF4.out
              have hd4 : w4.heap[D]? = some (.deferred (some [])) := by
                have := hE.dfr
                rw [hs.1, heap_setCell_ne _ _ _ _ (by show D ≠ w.heap.size + 1; omega), heap_setCell_ne _ _ _ _ (by show D ≠ w.heap.size; omega)] at this
                exact this
              refine ⟨z1, fun k hk => z2 k hk.1, ff, z3, ⟨z4, fun e => ?_⟩, fun n hn => ⟨z5 n hn, fun e => ?_⟩⟩
              · obtain ⟨tc, ht, _⟩ := z3.tab
                rw [e, hd4] at ht; cases ht
              · have ht := z3.file n hn
                rw [e, hd4] at ht; cases ht
            have hF6 := hF5.keep hm (fun k hk hg => by
              rcases hg with rfl | rfl | rfl
              · omega
              · omega
              · exact hk.2 rfl)
            exact hF6.more (fun k hk => ⟨by omega, by have := hF6.lt k hk; exact this⟩) (fun k hk => hk.2)
          gi_wp2
          obtain ⟨e1, e2, e3, e4⟩ := HE.out _ _ _ (Same.refl _)
          refine ⟨by simp, .inl ⟨_, _, rfl, run_takeDeferred e4, ?_⟩⟩
          have k0 := cell_kept e2 (grownBy_putObj' _ D (.deferred none)) (fun r e => by cases e; exact ⟨_, e4, rfl⟩)
          have k1 := cell_kept e3 (grownBy_putObj' _ D (.deferred none)) (fun r e => by cases e; exact ⟨_, e4, rfl⟩)
          refine ⟨.tuple #[.pointer (some ⟨g, 0, none⟩), .int .i64 0], ?_, e1.trans (belowK_b (w := w) (Nat.le_refl _) _ D _ _ (by omega) e4 rfl rfl), .inr ⟨decM ws, g, HOKD.out, rfl, HFE.out _ (Same.refl _)⟩⟩
          simp [results, Try.f20, go_sem, k0, k1]
  case stop =>
    rintro D c pre W hD ⟨k, hk, hpk⟩ ⟨rfl, hB, h0, h1, x, hx, hf⟩ hK
    have hxk : x.1 < nFiles ws := by rw [← HN.out]; exact x.2
    have HDN := Lib.hid (decode_file hxk hf)
    clear hpk
    gi_wp2
    refine ⟨by simp, .inl ⟨_, _, rfl, run_takeDeferred hK, ?_⟩⟩
    have c0 : W.cell? ⟨w.heap.size, 0, none⟩ = some (.pointer none) := by rw [cell_of_heap h0]; rfl
    have c1 : W.cell? ⟨w.heap.size + 1, 0, none⟩ = some (.int .i64 101) := by rw [cell_of_heap h1]; rfl
    have k0 := cell_kept c0 (grownBy_putObj' _ D (.deferred none)) (fun r e => by cases e; exact ⟨_, hK, rfl⟩)
    have k1 := cell_kept c1 (grownBy_putObj' _ D (.deferred none)) (fun r e => by cases e; exact ⟨_, hK, rfl⟩)
    refine ⟨.tuple #[.pointer none, .int .i64 101], ?_, hB.trans (belowK_b (w := w) (Nat.le_refl _) W D _ _ (by omega) hK rfl rfl), .inl ⟨HDN.out, rfl⟩⟩
    simp [results, Try.f20, go_sem, k0, k1]

end Go.Proofs.Ytpclhecpfjkehaa
