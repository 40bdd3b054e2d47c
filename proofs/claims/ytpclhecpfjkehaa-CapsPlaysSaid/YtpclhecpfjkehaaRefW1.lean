/- janusref08: how its capabilities lie in memory; find, free, Env, May, covers. -/
import Derived.Test.YtpclhecpfjkehaaCapsL0
namespace Go.Proofs.Ytpclhecpfjkehaa
open Go.RowKit

def rcell (c : CE) : List Value := [.int .i64 c.no, .int .i64 c.of, .int .i64 c.env, .int .i64 c.slot, .int .i64 c.x.kind, .int .i64 c.x.id, .int .i64 c.x.len, .int .i64 c.x.rights]

def rcells (L : List CE) : List Value := L.flatMap rcell

theorem rcells_len (L : List CE) : (rcells L).length = L.length * 8 := by
  unfold rcells
  induction L with
  | nil => rfl
  | cons c L ih => rw [List.flatMap_cons, List.length_append, ih]; simp [rcell]; omega

theorem rcells_get : ∀ (L : List CE) (i : Nat) (c : CE) (j : Nat), L[i]? = some c → j < 8 → (rcells L)[i * 8 + j]? = (rcell c)[j]?
  | [], i, c, j, h, _ => by simp at h
  | d :: L, 0, c, j, h, hj => by
    simp at h
    subst h
    unfold rcells
    rw [List.flatMap_cons, Nat.zero_mul, Nat.zero_add, List.getElem?_append_left (by simpa [rcell] using hj)]
  | d :: L, i + 1, c, j, h, hj => by
    have ih := rcells_get L i c j (by simpa using h) hj
    unfold rcells at ih ⊢
    have h8 : (rcell d).length = 8 := rfl
    rw [List.flatMap_cons, List.getElem?_append_right (by rw [h8]; omega), h8, ← ih]
    congr 1
    omega

theorem rcells_append (L L' : List CE) : rcells (L ++ L') = rcells L ++ rcells L' := by unfold rcells; rw [List.flatMap_append]

/-- The reference's capabilities M at block x of w, in blocks of F alone. -/
structure RCaps (w : World) (x : Nat) (M : CM) (F : Nat → Prop) : Prop where
  wf : M.WF
  lt : ∀ k, F k → k < w.heap.size
  fx : F x
  rep : ∃ v, w.heap[x]? = some (.cells #[v, .int .i64 M.last] 28 (0, 0)) ∧ w.ownsRow 0 105 8 v M.L.length (rcells M.L) ∧ ∀ k, v.ownBlock = some k → F k

theorem own_mod {w w' : World} {base : Nat} {e : TypeId} {size : Nat} {v : Value} {n : Nat} {xs : List Value} {G : Nat → Prop} (h : w.ownsRow base e size v n xs) (hm : Mod G w w') (hd : ∀ k, v.ownBlock = some k → ¬ G k) : w'.ownsRow base e size v n xs := by
  rcases h with ⟨h1, h2 | ⟨g, cap, cur, rfl, hb, hh, hr⟩⟩
  · exact ⟨h1, .inl h2⟩
  · exact ⟨h1, .inr ⟨g, cap, cur, rfl, hb, by rw [hm.block g (lt_of_heap hh) (hd g rfl)]; exact hh, hr⟩⟩

theorem RCaps.keep {w w' : World} {x : Nat} {M : CM} {F G : Nat → Prop} (h : RCaps w x M F) (hm : Mod G w w') (hd : ∀ k, F k → ¬ G k) : RCaps w' x M F := by
  obtain ⟨h1, h2, h3, v, h4, h5, h6⟩ := h
  exact ⟨h1, fun k hk => Nat.lt_of_lt_of_le (h2 k hk) hm.size, h3, v, by rw [hm.block x (h2 x h3) (hd x h3)]; exact h4, own_mod h5 hm (fun k hk => hd k (h6 k hk)), h6⟩

theorem RCaps.below {w w' : World} {x : Nat} {M : CM} {F : Nat → Prop} (h : RCaps w x M F) (hm : Below w.heap.size w w') : RCaps w' x M F :=
  h.keep (G := fun _ => False) (Mod.of_below hm) (fun _ _ h => h)

theorem RCaps.more {w : World} {x : Nat} {M : CM} {F G : Nat → Prop} (h : RCaps w x M F) (hF : ∀ k, F k → G k) (hG : ∀ k, G k → k < w.heap.size) : RCaps w x M G := by
  obtain ⟨h1, h2, h3, v, h4, h5, h6⟩ := h
  exact ⟨h1, hG, hF _ h3, v, h4, h5, fun k hk => hF _ (h6 k hk)⟩

theorem RCaps.new {w w' : World} {x : Nat} {M : CM} {F : Nat → Prop} (h : RCaps w x M F) (hm : Below w.heap.size w w') : RCaps w' x M (New F w w') :=
  (h.below hm).more (fun _ hk => .inl hk) (fun k hk => New.lt h.lt hm.size k hk)

/-- What the walks read: the slice, its length, the cells of each element. -/
theorem RCaps.reads {w : World} {x : Nat} {M : CM} {F : Nat → Prop} (h : RCaps w x M F) :
    ∃ A cap, w.cell? ⟨x, 0, none⟩ = some (.slice A M.L.length cap) ∧ w.cell? ⟨x, 1, none⟩ = some (.int .i64 M.last) ∧ M.L.length ≤ 780 ∧
      ∀ i c, M.L[i]? = some c → ∃ g, A = some ⟨g, 0, none⟩ ∧ g < w.heap.size ∧ F g ∧ ∀ j v, j < 8 → (rcell c)[j]? = some v → w.cell? ⟨g, i * 8 + j, none⟩ = some v := by
  obtain ⟨h1, h2, h3, v, h4, h5, h6⟩ := h
  have hlen := len_le_780 h1 (bs := M.L) (fun c hc => hc) h1.nd
  by_cases h0 : 0 < M.L.length
  · obtain ⟨g, cap, rfl, _, hg⟩ := h5.form h0
    refine ⟨_, _, by rw [cell_of_heap h4]; rfl, by rw [cell_of_heap h4]; rfl, hlen, fun i c hc => ⟨g, rfl, hg, h6 g rfl, fun j v hj hv => ?_⟩⟩
    have := h5.cells (g := g) rfl (i * 8 + j) v (by rw [rcells_get _ _ _ _ hc hj]; exact hv)
    rw [add_mk, Nat.zero_add] at this
    exact this
  · have hnil : M.L = [] := List.eq_nil_of_length_eq_zero (by omega)
    rcases h5.2 with ⟨rfl, hn⟩ | ⟨g, cap, cur, rfl, _⟩
    · refine ⟨none, 0, by rw [cell_of_heap h4, hnil]; rfl, by rw [cell_of_heap h4]; rfl, hlen, fun i c hc => by rw [hnil] at hc; simp at hc⟩
    · exact ⟨_, _, by rw [cell_of_heap h4]; rfl, by rw [cell_of_heap h4]; rfl, hlen, fun i c hc => by rw [hnil] at hc; simp at hc⟩

theorem find_spec (L : List CE) (e s : Int) (k : Nat) (hlt : k < L.length) (hno : ∀ j, j < k → ∀ c, L[j]? = some c → ¬ (c.env = e ∧ c.slot = s)) (hc : L[k].env = e ∧ L[k].slot = s) : findE L e s = some L[k] := by
  unfold findE
  rw [List.find?_eq_some_iff_getElem]
  refine ⟨by simp [hc.1, hc.2], k, hlt, rfl, fun j hj => ?_⟩
  have := hno j hj _ (List.getElem?_eq_getElem (by omega))
  simp
  omega

theorem find_none_spec (L : List CE) (e s : Int) (hno : ∀ (j : Nat) (c : CE), L[j]? = some c → ¬ (c.env = e ∧ c.slot = s)) : findE L e s = none := by
  unfold findE
  rw [List.find?_eq_none]
  intro c hc
  obtain ⟨j, hj⟩ := List.getElem?_of_mem hc
  have := hno j c hj
  simp
  omega

/-- Where 'find' finds: the place of what findE finds, or -1. -/
def FindAt (L : List CE) (e s : Int) (i : Int) : Prop := (i = -1 ∧ findE L e s = none) ∨ ∃ (k : Nat) (c : CE), i = k ∧ L[k]? = some c ∧ findE L e s = some c

set_option maxRecDepth 100000 in
set_option maxHeartbeats 400000 in
theorem rfind {w : World} {x : Nat} {M : CM} {F : Nat → Prop} (h : RCaps w x M F) (e s : Int) :
    Calls Try.prog 62 #[.pointer (some ⟨x, 0, none⟩), .int .i64 e, .int .i64 s] w fun y w' =>
      (∃ i : Int, y = .returned (.int .i64 i) ∧ FindAt M.L e s i) ∧ w = w' := by
  obtain ⟨A, cap, h0, _, hlen, hrow⟩ := h.reads
  clear h
  go_enter Try.func62, Try.ntmps62
  go_wp2
  go_loop [7] (fun t => ∃ k : Nat, k ≤ M.L.length ∧ t = .int .i64 k ∧ ∀ j, j < k → ∀ c, M.L[j]? = some c → ¬ (c.env = e ∧ c.slot = s)) (fun t => M.L.length - (intOf t).toNat)
  case atStart => exact ⟨0, by omega, rfl, fun j hj => by omega⟩
  case round =>
    obtain ⟨k, hk, rfl, hno⟩ := hrel
    by_cases hlt : k < M.L.length
    · obtain ⟨c, hc⟩ : ∃ c, c = M.L[k] := ⟨_, rfl⟩
      have hck : M.L[k]? = some c := by rw [hc]; exact List.getElem?_eq_getElem hlt
      obtain ⟨g, rfl, _, _, hcell⟩ := hrow k c hck
      have r2 := hcell 2 (.int .i64 c.env) (by omega) rfl
      have r3 := hcell 3 (.int .i64 c.slot) (by omega) rfl
      obtain ⟨ce, hce⟩ : ∃ ce, ce = c.env := ⟨_, rfl⟩
      obtain ⟨cs, hcs⟩ : ∃ cs, cs = c.slot := ⟨_, rfl⟩
      rw [← hce] at r2
      rw [← hcs] at r3
      have HN := Lib.hid hno
      have HC := Lib.hid hc
      have HK := Lib.hid hck
      have HE := Lib.hid hce
      have HS := Lib.hid hcs
      clear hrow hcell hno hc hck hce hcs
      by_cases hm : ce = e ∧ cs = s
      · obtain ⟨rfl, rfl⟩ := hm
        go_wp2
        go_ret
        refine ⟨⟨k, rfl, .inr ⟨k, c, rfl, HK.out, ?_⟩⟩, rfl⟩
        have h1 := HC.out
        rw [h1]
        exact find_spec M.L ce cs k hlt HN.out (by rw [← h1]; exact ⟨HE.out.symm, HS.out.symm⟩)
      · have hparts : (¬ ce = e) ∨ (ce = e ∧ ¬ cs = s) := by omega
        have hrel2 : ∀ j, j < k + 1 → ∀ c, M.L[j]? = some c → ¬ (c.env = e ∧ c.slot = s) := by
          intro j hj d hd
          by_cases hjk : j = k
          · subst hjk
            rw [HK.out] at hd
            injection hd with hd
            subst hd
            rw [← HE.out, ← HS.out]; exact hm
          · exact HN.out j (by omega) d hd
        have HR := Lib.hid hrel2
        clear hrel2 hm
        rcases hparts with hp | ⟨rfl, hp⟩
        all_goals
          go_wp2
          go_round
          case rel => exact ⟨k + 1, by omega, by go_num, HR.out⟩
          case measure => simp [intOf]; omega
    · have hkn : k = M.L.length := by omega
      have HN := Lib.hid hno
      clear hrow hno
      go_wp2
      go_ret
      refine ⟨⟨-1, rfl, .inl ⟨rfl, find_none_spec M.L e s fun j c hj => HN.out j ?_ c hj⟩⟩, rfl⟩
      have := (List.getElem?_eq_some_iff.1 hj).1
      omega

end Go.Proofs.Ytpclhecpfjkehaa
