/- slices.Chunk at words, four at a time: the iterator. -/
import Derived.Test.YtpclhecpfjkehaaProg
import Derived.Test.YtpclhecpfjkehaaBase
import Derived.Test.YtpclhecpfjkehaaRound
import Derived.WalkLawsBesides
import Derived.Outline
import Derived.Sort.QuietIn
import Derived.Deep.QuietTactic
import Derived.BigQuiet
import Derived.Lib.Hide
namespace Go.Proofs.Ytpclhecpfjkehaa
open Go.RowKit

attribute [local go_sem] Oper.semAt_some

theorem chunk_any (A : Option Addr) (len cap : Nat) (w : World) :
    Calls Try.prog 64 #[.slice A len cap, .int .i64 4] w fun e w' =>
      e = .returned (.func (.func 90) #[] #[.pointer (some ⟨w.heap.size, 0, none⟩), .pointer (some ⟨w.heap.size + 1, 0, none⟩)]) ∧ (w.alloc (.cells #[.slice A len cap] 42)).alloc (.cells #[.int .i64 4] 3) = w' := by
  go_enter Try.func64, Try.ntmps64
  go_wp2
  go_ret
  exact ⟨rfl, rfl⟩

/-- A chunk's number. -/
abbrev ChNo (N : Nat) := { x : Nat // x < N }

def chunkV (b off : Nat) {N : Nat} (x : ChNo N) : Array Value := #[.slice (some ⟨b, off + 4 * x.1, none⟩) 4 4]

/-- What a round keeps: what lay below n₀, and the iterator's two boxes. -/
def KpC (n₀ Bs Bn : Nat) (W W' : World) : Prop := Below n₀ W W' ∧ W'.heap[Bs]? = W.heap[Bs]? ∧ W'.heap[Bn]? = W.heap[Bn]?

theorem KpC.refl (n₀ Bs Bn : Nat) (W : World) : KpC n₀ Bs Bn W W := ⟨Below.refl _ _, rfl, rfl⟩
theorem KpC.trans {n₀ Bs Bn : Nat} {A B C : World} (h : KpC n₀ Bs Bn A B) (k : KpC n₀ Bs Bn B C) : KpC n₀ Bs Bn A C := ⟨h.1.trans k.1, k.2.1.trans h.2.1, k.2.2.trans h.2.2⟩
theorem KpC.same {n₀ Bs Bn : Nat} {A B C : World} (h : KpC n₀ Bs Bn A B) (hs : Same C B) : KpC n₀ Bs Bn A C := ⟨below_same h.1 hs, by rw [hs.1]; exact h.2.1, by rw [hs.1]; exact h.2.2⟩
theorem KpC.put {n₀ Bs Bn : Nat} {w W : World} {l : Nat} {o o' : Obj} (hn : n₀ ≤ w.heap.size) (hBs : Bs < w.heap.size) (hBn : Bn < w.heap.size) (hl : w.heap.size ≤ l) (ho : W.heap[l]? = some o) (h1 : o.isCells = false) (h2 : o.isWalk = false) : KpC n₀ Bs Bn W (W.putObj l o') :=
  ⟨belowK_b hn W l o o' hl ho h1 h2, World.putObj_heap_other (by omega), World.putObj_heap_other (by omega)⟩

set_option maxRecDepth 100000 in
set_option maxHeartbeats 2000000 in
theorem chunk1_in (n : Nat) (l Bs Bn n₀ b off N cap : Nat) (hN : N ≤ 1000) (hcap : 4 * N ≤ cap) (hcap2 : cap ≤ 9223372036854775807) (J Jx : List (ChNo N) → World → Prop)
    (hY : ∀ pre x W, J pre W → pre.length < N → YieldAt Fence.wide (n - 1) Try.prog l (chunkV b off x) W fun e W' =>
      (e = .returned (.bool true) ∧ J (pre ++ [x]) W' ∧ KpC n₀ Bs Bn W W') ∨ (e = .returned (.bool false) ∧ Jx (pre ++ [x]) W'))
    (hJd : ∀ s W m, J s W → J s (W.drewN m)) (W : World) (h1 : W.cell? ⟨Bs, 0, none⟩ = some (.slice (some ⟨b, off, none⟩) (4 * N) cap)) (h2 : W.cell? ⟨Bn, 0, none⟩ = some (.int .i64 4)) (h0 : J [] W) :
    CallsIn Fence.wide n Try.prog 90 #[.func (.yield l) #[] #[], .pointer (some ⟨Bs, 0, none⟩), .pointer (some ⟨Bn, 0, none⟩)] W fun e W' => (∃ v, e = .returned v) ∧
      ((∃ ys, ys.map (·.1) = List.range N ∧ J ys W') ∨ (∃ pre, (∃ k, k ≤ N ∧ pre.map (·.1) = List.range k) ∧ Jx pre W')) := by
  refine callsIn_of_wp Try.func90 rfl trivial ?_ rfl
  simp only [Try.ntmps90, List.size_toArray, List.length_cons, List.length_nil, Nat.reduceAdd, Nat.reduceSub, Array.replicate_succ, Array.replicate_zero, List.push_toArray, List.append_toArray, List.nil_append, List.cons_append]
  gi_wp2
  gi_loopw [4] (fun i wr => ∃ (k m : Nat) (pre : List (ChNo N)), m = 4 * k ∧ k ≤ N ∧ i = .int .i64 m ∧ pre.map (·.1) = List.range k ∧ J pre wr ∧ KpC n₀ Bs Bn W wr)
    (fun i _ => 4 * N - (intOf i).toNat)
  case atStart => exact ⟨0, 0, [], rfl, Nat.zero_le _, rfl, rfl, h0, KpC.refl _ _ _ _⟩
  case round =>
    obtain ⟨k, m, pre, hm, hk, rfl, hpre, hJs, hnx⟩ := hrel
    have r1 : wr.cell? ⟨Bs, 0, none⟩ = _ := (World.cell?_of_block hnx.2.1).trans h1
    have r2 : wr.cell? ⟨Bn, 0, none⟩ = _ := (World.cell?_of_block hnx.2.2).trans h2
    by_cases hlt : k < N
    · have hpl : pre.length = k := by have := congrArg List.length hpre; simpa using this
      have hps : (pre ++ [(⟨k, hlt⟩ : ChNo N)]).map (·.1) = List.range (k + 1) := by rw [List.map_append, hpre, List.range_succ]; rfl
      have e1 : chunkV b off (⟨k, hlt⟩ : ChNo N) = #[.slice (some ⟨b, off + m, none⟩) 4 4] := by unfold chunkV; rw [hm]
      have hm1 : m + 4 ≤ 4 * N := by omega
      have HYY := Lib.hid (fun W (h : J pre W) => hY pre ⟨k, hlt⟩ W h (by omega))
      rw [e1] at HYY
      have HPS := Lib.hid hps
      have HM := Lib.hid hm
      have HJ := Lib.hid (fun q => hJd pre wr q hJs)
      clear e1 hpl hpre hps hm h1 h2 hY hJd
      have im1 : (m : Int) + 4 ≤ 4 * (N : Int) := by omega
      have im2 : (4 : Int) * (N : Int) ≤ (cap : Int) := by omega
      have im3 : (m : Int) ≤ 4 * (N : Int) := by omega
      have im4 : ¬ cap = m := by omega
      have im5 : (m : Int) < 4 * (N : Int) := by omega
      gi_wp2
      refine wpIn_wide.2 ?_
      go_quiet (fail)
      obtain ⟨wq, hwq⟩ : ∃ wq : World, wq = wr.drewN nq := ⟨_, rfl⟩
      have hJq := HJ.out nq
      rw [← hwq] at hJq ⊢
      have hQ : Same wq wr := by rw [hwq]; exact Same.drewN _ _
      clear hwq HJ
      rw [hQ.cell] at r1 r2
      have hnq := hnx.same hQ
      have HNQ := Lib.hid hnq
      obtain ⟨fn, tmps, assign, body, hy, hR⟩ := HYY.out wq hJq
      clear hQ hnx hnq HYY
      gi_wp2
      refine ⟨fun h => by simp [Fence.wide] at h, hR.mono ?_⟩
      rintro e W3 (⟨rfl, hJ3, hk3⟩ | ⟨rfl, hJx3⟩)
      · have hb3 := HNQ.out.trans hk3
        have q2 : W3.cell? ⟨Bn, 0, none⟩ = _ := (World.cell?_of_block hk3.2.2).trans r2
        clear r1 r2 hy hR
        gi_wp2
        go_roundw
        case rel => exact ⟨k + 1, m + 4, _, by rw [HM.out]; omega, by omega, by go_num, HPS.out, hJ3, hb3⟩
        case measure => simp [intOf]; omega
      · clear r1 r2 hy hR
        gi_wp2
        refine bodyPost_ret (results_none rfl _ _ _) rfl ?_
        exact ⟨⟨_, rfl⟩, .inr ⟨_, ⟨k + 1, by omega, HPS.out⟩, hJx3⟩⟩
    · have hkn : k = N := by omega
      subst hkn
      have im : ¬ (m : Int) < 4 * (k : Int) := by omega
      have HP := Lib.hid hpre
      clear hm hpre h1 h2
      gi_wp2
      go_end0
      exact ⟨⟨_, rfl⟩, .inl ⟨_, HP.out, hJs⟩⟩

theorem chunk_stops (n : Nat) (Bs Bn n₀ b off N cap : Nat) (hN : N ≤ 1000) (hcap : 4 * N ≤ cap) (hcap2 : cap ≤ 9223372036854775807) (w : World) (hBs : Bs < w.heap.size) (hBn : Bn < w.heap.size)
    (h1 : w.cell? ⟨Bs, 0, none⟩ = some (.slice (some ⟨b, off, none⟩) (4 * N) cap)) (h2 : w.cell? ⟨Bn, 0, none⟩ = some (.int .i64 4)) :
    SeqStopsK Fence.wide n Try.prog 90 #[.pointer (some ⟨Bs, 0, none⟩), .pointer (some ⟨Bn, 0, none⟩)] (chunkV b off (N := N)) (KpC n₀ Bs Bn) (fun ys => ys.map (·.1) = List.range N)
      (fun pre => ∃ k, k ≤ N ∧ pre.map (·.1) = List.range k) N w := fun l J Jx W hW hJ _ hY h0 => by
  refine (chunk1_in n l Bs Bn n₀ b off N cap hN hcap hcap2 J Jx hY (fun s A m hs => hJ s A _ none hs ⟨rfl, rfl, rfl, Nat.le_refl _, fun _ _ _ => rfl⟩ (fun r h => by cases h)) W ?_ ?_ h0).mono fun e W' h => h
  · exact (hW.cell (p := ⟨Bs, 0, none⟩) hBs).trans h1
  · exact (hW.cell (p := ⟨Bn, 0, none⟩) hBn).trans h2

end Go.Proofs.Ytpclhecpfjkehaa
