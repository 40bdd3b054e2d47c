/- caps: Has, Holders. -/
import Derived.Test.YtpclhecpfjkehaaCapsW6
namespace Go.Proofs.Ytpclhecpfjkehaa
open Go.RowKit

theorem containsFunc_has (I : World → Prop) (p : Nat → Bool) (V : Nat → Value) (b o n cap : Nat) (c0 c1 c2 : Addr) (hn : n ≤ 1000)
    (hcell : ∀ w, I w → ∀ j, j < n → w.cell? ⟨b, o + j, none⟩ = some (V j))
    (hcall : ∀ w, I w → ∀ j, j < n → Calls Try.prog 57 #[V j, .pointer (some c0), .pointer (some c1), .pointer (some c2)] w fun e w' => e = .returned (.bool (p j)) ∧ I w')
    (w : World) (hI : I w) :
    Calls Try.prog 56 #[.slice (some ⟨b, o, none⟩) n cap, .func (.func 57) #[] #[.pointer (some c0), .pointer (some c1), .pointer (some c2)]] w fun e w' =>
      e = .returned (.bool ((List.range n).any p)) ∧ I w' := by
  have h := indexFunc_has I p V b o n cap c0 c1 c2 hn hcell hcall w hI
  clear hcell hcall
  go_enter Try.func56, Try.ntmps56
  go_wp2_with fail
  refine h.mono ?_
  rintro e w1 ⟨hI1, i, rfl, hi⟩
  have hi2 := hi
  clear hi h
  go_wp2
  go_ret
  first | exact ⟨ret_bool hi2, hI1⟩ | exact ⟨rfl, hI1⟩

def hasP (L : List CE) (e k i r : Int) (j : Nat) : Bool :=
  match findE L e j with
  | none => false
  | some c => coverB c.x k i r

theorem has_eq {M : CM} (hw : M.WF) (e k i r : Int) : (List.range 65).any (hasP M.L e k i r) = M.has e k i r := by
  rw [Bool.eq_iff_iff]
  unfold CM.has
  rw [List.any_eq_true, List.any_eq_true]
  constructor
  · rintro ⟨j, _, hp⟩
    unfold hasP at hp
    split at hp
    · cases hp
    · rename_i c hc
      obtain ⟨h1, h2, _⟩ := findE_some hc
      exact ⟨c, h1, by simp [h2, hp]⟩
  · rintro ⟨c, hc, hp⟩
    simp at hp
    have he := hw.env c hc
    refine ⟨c.slot.toNat, List.mem_range.2 (by omega), ?_⟩
    unfold hasP
    have : ((c.slot.toNat : Nat) : Int) = c.slot := by omega
    rw [this, ← hp.1, findE_of hw hc]
    exact hp.2

theorem has_out {M : CM} (hw : M.WF) {e k i r : Int} (h : isB e = false) : M.has e k i r = false := by
  unfold CM.has
  rw [List.any_eq_false]
  intro c hc
  have := hw.env c hc
  simp [isB] at h
  simp
  intro h1
  omega

theorem has_nil (e k i r : Int) (w : World) :
    Calls Try.prog 11 #[.pointer none, .int .i64 e, .int .i64 k, .int .i64 i, .int .i64 r] w fun y w' => y = .returned (.bool false) ∧ Below w.heap.size w w' := by
  go_enter Try.func11, Try.ntmps11
  go_wp2
  go_ret
  exact ⟨rfl, (((Below.refl _ _).alloc (Nat.le_refl _) _).alloc (by simp) _).alloc (by simp; omega) _⟩

theorem has_any {w : World} {b : Nat} {M : CM} {F : Nat → Prop} (h : Caps w b M F) (e k i r : Int) (h0 : 0 ≤ r ∧ r ≤ 7) :
    Calls Try.prog 11 #[.pointer (some ⟨b, 0, none⟩), .int .i64 e, .int .i64 k, .int .i64 i, .int .i64 r] w fun y w' =>
      y = .returned (.bool (M.has e k i r)) ∧ Below w.heap.size w w' := by
  have hB0 : Below w.heap.size w (((w.alloc (.cells #[.int .i64 k] 3)).alloc (.cells #[.int .i64 i] 3)).alloc (.cells #[.int .i64 r] 3)) :=
    (((Below.refl _ _).alloc (Nat.le_refl _) _).alloc (by simp) _).alloc (by simp; omega) _
  by_cases he : isB e = true
  · have he' := he
    simp [isB] at he'
    obtain ⟨e, rfl⟩ := Int.eq_ofNat_of_zero_le he'.1
    have hen : e < 12 := by omega
    obtain ⟨hw, hlt, f, hr, hFb, hFn⟩ := h
    have hloop : ∀ W : World, (((w.alloc (.cells #[.int .i64 k] 3)).alloc (.cells #[.int .i64 i] 3)).alloc (.cells #[.int .i64 r] 3)) = W →
        Calls Try.prog 56 #[.slice (some ⟨b, e * 65, none⟩) 65 65, .func (.func 57) #[] #[.pointer (some ⟨w.heap.size, 0, none⟩), .pointer (some ⟨w.heap.size + 1, 0, none⟩), .pointer (some ⟨w.heap.size + 1 + 1, 0, none⟩)]] W fun y w' =>
          y = .returned (.bool ((List.range 65).any (hasP M.L e k i r))) ∧ Below W.heap.size W w' := by
      intro W hW
      have hWs : W.heap.size = w.heap.size + 3 := by rw [← hW]; simp
      have hrW : Rep W b M.L f := hr.keep (by rw [← hW]; exact hB0.block b (hlt b hFb)) (fun x hx => by rw [← hW]; exact hB0.block _ (hlt _ (hFn x hx)))
      have b0 : W.cell? ⟨w.heap.size, 0, none⟩ = some (.int .i64 k) := by
        refine (cell_of_heap (c := #[.int .i64 k]) (t := 3) (fr := (0, 0)) ?_ 0).trans rfl
        rw [← hW, heap_alloc, if_neg (by simp; omega), heap_alloc, if_neg (by simp), heap_alloc, if_pos rfl]
      have b1 : W.cell? ⟨w.heap.size + 1, 0, none⟩ = some (.int .i64 i) := by
        refine (cell_of_heap (c := #[.int .i64 i]) (t := 3) (fr := (0, 0)) ?_ 0).trans rfl
        rw [← hW, heap_alloc, if_neg (by simp), heap_alloc, if_pos (by simp)]
      have b2 : W.cell? ⟨w.heap.size + 2, 0, none⟩ = some (.int .i64 r) := by
        refine (cell_of_heap (c := #[.int .i64 r]) (t := 3) (fr := (0, 0)) ?_ 0).trans rfl
        rw [← hW, heap_alloc, if_pos (by simp)]
      refine containsFunc_has (fun w' => Below W.heap.size W w') (hasP M.L e k i r) (fun j => .pointer (ptrTo f (findE M.L e j))) b (e * 65) 65 65 _ _ _ (by omega) ?_ ?_ W (Below.refl _ _)
      · intro w1 hw1 j hj
        rw [hw1.cell (by rw [hWs]; have := hlt b hFb; show b < _; omega)]
        exact (hrW.cell e j hen hj).1
      · intro w1 hw1 j hj
        have q0 : w1.cell? ⟨w.heap.size, 0, none⟩ = some (.int .i64 k) := by rw [hw1.cell (by show w.heap.size < _; omega), b0]
        have q1 : w1.cell? ⟨w.heap.size + 1, 0, none⟩ = some (.int .i64 i) := by rw [hw1.cell (by show w.heap.size + 1 < _; omega), b1]
        have q2 : w1.cell? ⟨w.heap.size + 2, 0, none⟩ = some (.int .i64 r) := by rw [hw1.cell (by show w.heap.size + 2 < _; omega), b2]
        unfold hasP
        cases hf : findE M.L e j with
        | none =>
          refine (has1_nil w.heap.size w1).mono ?_
          rintro y w2 ⟨rfl, hb⟩
          exact ⟨rfl, hw1.trans (hb.mono hw1.size)⟩
        | some c =>
          obtain ⟨hc, _, _⟩ := findE_some hf
          have hlc : f c.no < W.heap.size := hrW.nlt hc
          obtain ⟨n0, n1, n2, n3, _⟩ := hrW.ncell hc
          have hmay := hw.may c hc
          simp [mayB] at hmay
          refine (has1_some w.heap.size (f c.no) c.x.kind c.x.id c.x.len c.x.rights k i r w1 q0 q1 q2 (by rw [hw1.cell hlc, n0]) (by rw [hw1.cell hlc, n1]) (by rw [hw1.cell hlc, n2]) (by rw [hw1.cell hlc, n3]) ?_ ?_ ?_ h0).mono ?_
          · omega
          · omega
          · omega
          · rintro y w2 ⟨rfl, hb⟩
            exact ⟨rfl, hw1.trans (hb.mono hw1.size)⟩
    have hl := hloop _ rfl
    rw [has_eq hw] at hl
    clear hloop hr hFn hw
    go_enter Try.func11, Try.ntmps11
    go_wp2_with (go_at_call 55; refine (is_any _ _).mono ?_; rintro y w' ⟨rfl, rfl⟩)
    refine hl.mono ?_
    rintro y w1 ⟨rfl, hb⟩
    go_wp2
    go_ret
    exact ⟨rfl, hB0.trans (hb.mono hB0.size)⟩
  · have he : isB e = false := by simpa using he
    rw [has_out h.wf he]
    clear h
    go_enter Try.func11, Try.ntmps11
    go_wp2_with (go_at_call 55; refine (is_any _ _).mono ?_; rintro y w' ⟨rfl, rfl⟩)
    go_ret
    exact ⟨rfl, hB0⟩

end Go.Proofs.Ytpclhecpfjkehaa
