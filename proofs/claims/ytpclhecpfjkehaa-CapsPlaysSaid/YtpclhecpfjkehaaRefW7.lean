/- janusref01.Put: a number into a rising list. -/
import Derived.Test.YtpclhecpfjkehaaApp
import Derived.Test.YtpclhecpfjkehaaCapsW8
namespace Go.Proofs.Ytpclhecpfjkehaa
open Go.RowKit

def putTail (v : Int) : List Int → List Int
  | [] => []
  | y :: r => if y = v then r else y :: r

def putL (l : List Int) (v : Int) : List Int := l.takeWhile (fun y => decide (y < v)) ++ v :: putTail v (l.dropWhile fun y => decide (y < v))

theorem take_of_all {l : List Int} {v : Int} {i : Nat} (hi : i ≤ l.length) (h : ∀ j y, j < i → l[j]? = some y → y < v) (hstop : ∀ y, l[i]? = some y → ¬ y < v) :
    l.takeWhile (fun y => decide (y < v)) = l.take i ∧ l.dropWhile (fun y => decide (y < v)) = l.drop i := by
  induction l generalizing i with
  | nil => simp
  | cons a l ih =>
    cases i with
    | zero =>
      have := hstop a (by simp)
      simp [this]
    | succ i =>
      have ha := h 0 a (by omega) (by simp)
      obtain ⟨h1, h2⟩ := ih (i := i) (by simpa using hi) (fun j y hj hy => h (j + 1) y (by omega) (by simpa using hy)) (fun y hy => hstop y (by simpa using hy))
      simp [ha, h1, h2]

theorem putL_at {l : List Int} {v : Int} {i : Nat} (hi : i ≤ l.length) (h : ∀ j y, j < i → l[j]? = some y → y < v) (hstop : ∀ y, l[i]? = some y → ¬ y < v) (i' : Nat)
    (hi' : i' = if l[i]? = some v then i + 1 else i) : putL l v = l.take i ++ v :: l.drop i' := by
  obtain ⟨h1, h2⟩ := take_of_all hi h hstop
  unfold putL
  rw [h1, h2, hi']
  by_cases hv : l[i]? = some v
  · rw [if_pos hv]
    have hl : i < l.length := (List.getElem?_eq_some_iff.1 hv).1
    rw [List.drop_eq_getElem_cons hl]
    have : l[i] = v := (List.getElem?_eq_some_iff.1 hv).2
    simp [putTail, this]
  · rw [if_neg hv]
    cases hd : l.drop i with
    | nil => rfl
    | cons y r =>
      have hy : l[i]? = some y := by
        have := List.getElem?_drop (xs := l) (i := i) (j := 0)
        rw [hd] at this
        simpa using this.symm
      have : y ≠ v := fun e => hv (by rw [hy, e])
      simp [putTail, this]

def rowV (l : List Int) : List Value := l.map (Value.int .i64)

theorem rowV_len (l : List Int) : (rowV l).length = l.length := by simp [rowV]

theorem rowV_one (l : List Int) : ∀ u ∈ rowV l, u.oneCell' = true := by
  intro u hu
  obtain ⟨x, _, rfl⟩ := List.mem_map.1 hu
  rfl

theorem src_drop {w : World} {g i : Nat} {xs : List Int} (h : ∀ j z, xs[j]? = some z → w.cell? ⟨g, j, none⟩ = some (.int .i64 z)) (hg : g < w.heap.size) : Src w 1 (some ⟨g, i, none⟩) (xs.length - i) (rowV (xs.drop i)) := by
  refine ⟨by simp [rowV], fun _ => ⟨g, i, rfl, hg, fun j u hu => ?_⟩⟩
  simp only [rowV, List.getElem?_map, List.getElem?_drop] at hu
  obtain ⟨z, hz, rfl⟩ := Option.map_eq_some_iff.1 hu
  exact h _ _ hz

theorem src_none {w : World} (A : Option Addr) : Src w 1 A 0 [] := ⟨rfl, fun h => absurd h (by omega)⟩

theorem src_cast {w : World} {A B : Option Addr} {m k : Nat} {xs : List Value} (h : Src w 1 A m xs) (hk : k = m) (hB : B = A ∨ m = 0) : Src w 1 B k xs := by
  subst hk
  rcases hB with rfl | h0
  · exact h
  · exact ⟨h.1, fun hl => by omega⟩

theorem row_fin {w : World} {b : Nat} {e : TypeId} {A : Option Addr} {n n' c : Nat} {xs ys : List Value} (h : w.ownsRow b e 1 (.slice A n c) n xs) (hx : xs = ys) (hn : n = n') : w.ownsRow b e 1 (.slice A n c) n' ys := by
  subst hx; subst hn; exact h

set_option maxRecDepth 100000 in
set_option maxHeartbeats 1600000 in
theorem rputL (u : Value) (xs : List Int) (v : Int) (base0 : Nat) (w : World) (hu : w.ownsRow base0 3 1 u xs.length (xs.map (Value.int .i64))) (hn : xs.length ≤ 1000) :
    Calls Try.prog 60 #[u, .int .i64 v] w fun y w' =>
      ∃ u', y = .returned u' ∧ w'.ownsRow w.heap.size 3 1 u' (putL xs v).length ((putL xs v).map (Value.int .i64)) ∧ Below w.heap.size w w' := by
  obtain ⟨i0, hi, hz0, hz1, hz2⟩ := info_parts intInfo
  obtain ⟨A, cap, rfl, hcap, hA⟩ : ∃ A cap, u = .slice A xs.length cap ∧ xs.length ≤ cap ∧ (A = none ∧ cap = 0 ∨ ∃ g, A = some ⟨g, 0, none⟩ ∧ g < w.heap.size ∧ ∀ j x, xs[j]? = some x → w.cell? ⟨g, j, none⟩ = some (.int .i64 x)) := by
    have h1 := hu
    rcases h1.2 with ⟨hv, h0⟩ | ⟨g, cap, cur, hv, _, hh, hle, _⟩
    · exact ⟨none, 0, by rw [hv, h0], by omega, .inl ⟨rfl, rfl⟩⟩
    · refine ⟨_, cap, hv, hle, .inr ⟨g, rfl, lt_of_heap hh, fun j x hx => ?_⟩⟩
      have := h1.cells (g := g) (by rw [hv]; rfl) j (.int .i64 x) (by simp [hx])
      rw [add_mk, Nat.zero_add] at this
      exact this
  clear hu
  go_enter Try.func60, Try.ntmps60
  go_wp2
  go_loopw [5, 6] (fun o t wr => Below w.heap.size w wr ∧ ∃ k : Nat, k ≤ xs.length ∧ t = .int .i64 k ∧ wr.ownsRow w.heap.size 3 1 o k (rowV (xs.take k)) ∧ ∀ j y, j < k → xs[j]? = some y → y < v) (fun _ t _ => xs.length - (intOf t).toNat)
  case atStart => exact ⟨Below.refl _ _, 0, by omega, rfl, World.ownsRow_nil _ _ _ _, fun j y hj => by omega⟩
  case round =>
    obtain ⟨hb, k, hk, rfl, hown, hlt⟩ := hrel
    have hsz := hb.size
    have HL := Lib.hid hlt
    clear hlt
    by_cases hkn : k < xs.length
    · obtain ⟨y, hy⟩ : ∃ y, y = xs[k] := ⟨_, rfl⟩
      have hky : xs[k]? = some y := by rw [hy]; exact List.getElem?_eq_getElem hkn
      rcases hA with ⟨_, h0⟩ | ⟨g, rfl, hg, hcell⟩
      · omega
      have rc : wr.cell? ⟨g, k, none⟩ = some (.int .i64 y) := by rw [hb.cell hg]; exact hcell k y hky
      have ik : (k : Int) < (xs.length : Int) := by omega
      have htk : (xs.take (k + 1)).map (Value.int .i64) = rowV (xs.take k) ++ [.int .i64 y] := by
        rw [List.take_add_one, hky, List.map_append]; rfl
      have HT := Lib.hid htk
      have HK := Lib.hid hky
      clear htk hky hy
      by_cases hyv : y < v
      · clear hcell
        go_wp2_with (at_builtin; refine wpList_append_own _ rfl _ _ 36 rfl w.heap.size 3 i0 (.int .i64 0) 1 8 Try.underlying36 hi hz0 hz1 hz2 rfl (by decide) _ _ _ rfl (hown.alloc _) ⟨wr.heap.size, 0, none⟩ 1 1 [.int .i64 y] rfl rfl ?qq1 ?qq2 ?qq3 ?qq4 ?qq5 ?_)
        case qq1 => exact (cell_one_new _ _ _)
        case qq2 => simp [Value.oneCell']
        case qq3 => unfold maxLen; omega
        case qq4 => omega
        case qq5 => simp; omega
        intro o' w2 hown2 hg2 _
        have hb2 : Below w.heap.size w w2 := (hb.alloc hsz _).grown hg2 (by simp; omega) (fun q hq => (hown.lt q hq).1)
        clear hg2 hown rc
        go_wp2
        go_roundw
        case rel =>
          refine ⟨hb2, k + 1, by omega, by go_num, by unfold rowV; rw [HT.out]; exact hown2, fun j z hj hz => ?_⟩
          by_cases hjk : j = k
          · subst hjk
            rw [HK.out] at hz
            injection hz with hz
            omega
          · exact HL.out j z (by omega) hz
        case measure => simp [intOf]; omega
      · -- the place is found
        by_cases hye : y = v
        · subst hye
          go_wp2_with (at_builtin; refine wpList_append_own _ rfl _ _ 36 rfl w.heap.size 3 i0 (.int .i64 0) 1 8 Try.underlying36 hi hz0 hz1 hz2 rfl (by decide) _ _ _ rfl (hown.alloc _) ⟨wr.heap.size, 0, none⟩ 1 1 [.int .i64 y] rfl rfl ?aa1 ?aa2 ?aa3 ?aa4 ?aa5 ?_)
          case aa2 => simp [Value.oneCell']
          case aa3 => unfold maxLen; omega
          case aa4 => omega
          case aa5 => first | omega | (simp; omega)
          intro o' w2 hown2 hg2 _
          have hb2 : Below w.heap.size w w2 := (hb.alloc hsz _).grown hg2 (by simp; omega) (fun q hq => (hown.lt q hq).1)
          have rc2 : w2.cell? ⟨g, k, none⟩ = some (.int .i64 y) := by rw [hb2.cell hg]; exact hcell k y HK.out
          clear hg2 hown rc
          have hsrc : Src w2 1 (some ⟨g, k + 1, none⟩) (xs.length - (k + 1)) (rowV (xs.drop (k + 1))) := src_drop (fun j z hz => by rw [hb2.cell hg]; exact hcell j z hz) (Nat.lt_of_lt_of_le hg hb2.size)
          have HS := Lib.hid hsrc
          clear hcell hsrc
          have hfin : putL xs y = xs.take k ++ y :: xs.drop (k + 1) := putL_at (by omega) HL.out (fun z hz => by rw [HK.out] at hz; injection hz with hz; omega) _ (by rw [if_pos HK.out])
          have HF := Lib.hid hfin
          clear hfin
          have hcc : cap = k + 1 ∨ (¬ cap = k + 1 ∧ ¬ (cap : Int) = (k : Int) + 1) := by omega
          rcases hcc with rfl | ⟨hc1, hc2⟩
          all_goals
            go_wp2_with (at_builtin; refine wpList_append_src rfl _ _ 36 rfl w.heap.size 3 i0 (.int .i64 0) 1 8 Try.underlying36 hi hz0 hz1 hz2 rfl (by decide) _ _ _ rfl hown2 _ _ _ (rowV (xs.drop (k + 1))) rfl ?bbs (rowV_one _) ?bb3 ?bb4 ?bb5 ?_)
            case bbs => first | exact src_cast HS.out (by omega) (.inl rfl) | exact src_cast HS.out (by omega) (.inr (by omega))
            case bb3 => unfold maxLen; omega
            case bb4 => omega
            case bb5 => exact hb2.size
            intro A3 c3 w3 hown3 hg3 _
            have hb3 : Below w.heap.size w w3 := hb2.grown hg3 hb2.size (fun q hq => (hown2.lt q hq).1)
            clear hown2 hg3
            go_wp2
            go_ret
            refine ⟨_, rfl, ?_, hb3⟩
            rw [HF.out]
            exact row_fin hown3 (by simp [rowV]) (by first | (simp; done) | (simp; omega))
        · have hgt : v < y := by omega
          go_wp2_with (at_builtin; refine wpList_append_own _ rfl _ _ 36 rfl w.heap.size 3 i0 (.int .i64 0) 1 8 Try.underlying36 hi hz0 hz1 hz2 rfl (by decide) _ _ _ rfl (hown.alloc _) ⟨wr.heap.size, 0, none⟩ 1 1 [.int .i64 v] rfl rfl ?dd1 ?dd2 ?dd3 ?dd4 ?dd5 ?_)
          case dd2 => simp [Value.oneCell']
          case dd3 => unfold maxLen; omega
          case dd4 => omega
          case dd5 => first | omega | (simp; omega)
          intro o' w2 hown2 hg2 _
          have hb2 : Below w.heap.size w w2 := (hb.alloc hsz _).grown hg2 (by simp; omega) (fun q hq => (hown.lt q hq).1)
          have rc2 : w2.cell? ⟨g, k, none⟩ = some (.int .i64 y) := by rw [hb2.cell hg]; exact hcell k y HK.out
          clear hg2 hown rc
          have hsrc : Src w2 1 (some ⟨g, k, none⟩) (xs.length - k) (rowV (xs.drop k)) := src_drop (fun j z hz => by rw [hb2.cell hg]; exact hcell j z hz) (Nat.lt_of_lt_of_le hg hb2.size)
          have HS := Lib.hid hsrc
          clear hcell hsrc
          have hfin : putL xs v = xs.take k ++ v :: xs.drop k := putL_at (by omega) HL.out (fun z hz => by rw [HK.out] at hz; injection hz with hz; omega) _ (by rw [if_neg (by rw [HK.out]; intro e; injection e with e; omega)])
          have HF := Lib.hid hfin
          clear hfin
          have hc1 : ¬ cap = k := by omega
          have hc2 : ¬ (cap : Int) = (k : Int) := by omega
          go_wp2_with (at_builtin; refine wpList_append_src rfl _ _ 36 rfl w.heap.size 3 i0 (.int .i64 0) 1 8 Try.underlying36 hi hz0 hz1 hz2 rfl (by decide) _ _ _ rfl hown2 _ _ _ (rowV (xs.drop k)) rfl ?ees (rowV_one _) ?ee3 ?ee4 ?ee5 ?_)
          case ees => first | exact src_cast HS.out (by omega) (.inl rfl) | exact src_cast HS.out (by omega) (.inr (by omega))
          case ee3 => unfold maxLen; omega
          case ee4 => omega
          case ee5 => exact hb2.size
          intro A3 c3 w3 hown3 hg3 _
          have hb3 : Below w.heap.size w w3 := hb2.grown hg3 hb2.size (fun q hq => (hown2.lt q hq).1)
          clear hown2 hg3
          go_wp2
          go_ret
          refine ⟨_, rfl, ?_, hb3⟩
          rw [HF.out]
          exact row_fin hown3 (by simp [rowV]) (by first | (simp; done) | (simp; omega))
    · have hkn2 : k = xs.length := by omega
      subst hkn2
      have HC := Lib.hid hA
      have hfin : putL xs v = xs.take xs.length ++ v :: xs.drop xs.length := putL_at (by omega) HL.out (fun z hz => by simp at hz) _ (by simp)
      have HF := Lib.hid hfin
      clear hfin hA
      go_wp2_with (at_builtin; refine wpList_append_own _ rfl _ _ 36 rfl w.heap.size 3 i0 (.int .i64 0) 1 8 Try.underlying36 hi hz0 hz1 hz2 rfl (by decide) _ _ _ rfl (hown.alloc _) ⟨wr.heap.size, 0, none⟩ 1 1 [.int .i64 v] rfl rfl ?ff1 ?ff2 ?ff3 ?ff4 ?ff5 ?_)
      case ff1 => exact (cell_one_new _ _ _)
      case ff2 => simp [Value.oneCell']
      case ff3 => unfold maxLen; omega
      case ff4 => omega
      case ff5 => first | omega | (simp; omega)
      intro o' w2 hown2 hg2 _
      have hb2 : Below w.heap.size w w2 := (hb.alloc hsz _).grown hg2 (by simp; omega) (fun q hq => (hown.lt q hq).1)
      clear hg2 hown
      have hcc : cap = xs.length ∨ (¬ cap = xs.length ∧ ¬ (cap : Int) = (xs.length : Int)) := by omega
      rcases hcc with hcc | ⟨hc1, hc2⟩
      · subst hcc
        go_wp2_with (at_builtin; refine wpList_append_src rfl _ _ 36 rfl w.heap.size 3 i0 (.int .i64 0) 1 8 Try.underlying36 hi hz0 hz1 hz2 rfl (by decide) _ _ _ rfl hown2 _ _ _ (rowV (xs.drop xs.length)) rfl ?ggs (rowV_one _) ?gg3 ?gg4 ?gg5 ?_)
        case ggs => exact src_cast (m := 0) (A := none) (by rw [List.drop_length]; exact src_none none) (by omega) (.inr rfl)
        case gg3 => unfold maxLen; omega
        case gg4 => omega
        case gg5 => exact hb2.size
        intro A3 c3 w3 hown3 hg3 _
        have hb3 : Below w.heap.size w w3 := hb2.grown hg3 hb2.size (fun q hq => (hown2.lt q hq).1)
        clear hown2 hg3
        go_wp2
        go_ret
        refine ⟨_, rfl, ?_, hb3⟩
        rw [HF.out]
        exact row_fin hown3 (by simp [rowV]) (by first | (simp; done) | (simp; omega))
      · obtain ⟨g, hg⟩ : ∃ g, A = some ⟨g, 0, none⟩ := by
          rcases HC.out with ⟨_, h0⟩ | ⟨g, h1, _⟩
          · omega
          · exact ⟨g, h1⟩
        subst hg
        go_wp2_with (at_builtin; refine wpList_append_src rfl _ _ 36 rfl w.heap.size 3 i0 (.int .i64 0) 1 8 Try.underlying36 hi hz0 hz1 hz2 rfl (by decide) _ _ _ rfl hown2 _ _ _ (rowV (xs.drop xs.length)) rfl ?hhs (rowV_one _) ?hh3 ?hh4 ?hh5 ?_)
        case hhs => exact src_cast (m := 0) (A := none) (by rw [List.drop_length]; exact src_none none) (by omega) (.inr rfl)
        case hh3 => unfold maxLen; omega
        case hh4 => omega
        case hh5 => exact hb2.size
        intro A3 c3 w3 hown3 hg3 _
        have hb3 : Below w.heap.size w w3 := hb2.grown hg3 hb2.size (fun q hq => (hown2.lt q hq).1)
        clear hown2 hg3
        go_wp2
        go_ret
        refine ⟨_, rfl, ?_, hb3⟩
        rw [HF.out]
        exact row_fin hown3 (by simp [rowV]) (by first | (simp; done) | (simp; omega))

end Go.Proofs.Ytpclhecpfjkehaa
