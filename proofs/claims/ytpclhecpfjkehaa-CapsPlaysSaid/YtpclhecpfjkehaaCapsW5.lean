/- caps: Add, Give. -/
import Derived.Test.YtpclhecpfjkehaaCapsW4
namespace Go.Proofs.Ytpclhecpfjkehaa
open Go.RowKit

/-- Capabilities in a world that has more blocks: they may still lie in F and what is new. -/
theorem Caps.more {w : World} {b : Nat} {M : CM} {F G : Nat → Prop} (h : Caps w b M F) (hF : ∀ k, F k → G k) (hG : ∀ k, G k → k < w.heap.size) : Caps w b M G := by
  obtain ⟨h1, h2, f, h3, h4, h5⟩ := h
  exact ⟨h1, hG, f, h3, hF _ h4, fun x hx => hF _ (h5 x hx)⟩

theorem New.mono {F : Nat → Prop} {w w1 w' : World} (h1 : w.heap.size ≤ w1.heap.size) (k : Nat) (h : New F w1 w' k) : New F w w' k := by
  rcases h with h | ⟨h2, h3⟩
  · exact .inl h
  · exact .inr ⟨by omega, h3⟩

theorem New.lt {F : Nat → Prop} {w w' : World} (h : ∀ k, F k → k < w.heap.size) (hs : w.heap.size ≤ w'.heap.size) (k : Nat) (hk : New F w w' k) : k < w'.heap.size := by
  rcases hk with hk | ⟨_, hk⟩
  · have := h k hk; omega
  · exact hk

theorem Caps.new {w w' : World} {b : Nat} {M : CM} {F : Nat → Prop} (h : Caps w b M F) (hm : Below w.heap.size w w') : Caps w' b M (New F w w') :=
  (h.below hm).more (fun _ hk => .inl hk) (fun k hk => New.lt h.lt hm.size k hk)

theorem add_any {w : World} {b : Nat} {M : CM} {F : Nat → Prop} (h : Caps w b M F) (e : Int) (x : Cap) :
    Calls Try.prog 45 #[.pointer (some ⟨b, 0, none⟩), .int .i64 e, .agg #[.int .i64 x.kind, .int .i64 x.id, .int .i64 x.len, .int .i64 x.rights]] w fun r w' =>
      r = .returned (.tuple #[.int .i64 (M.add e x).1.1, .int .i64 (M.add e x).1.2]) ∧ Mod F w w' ∧ Caps w' b (M.add e x).2 (New F w w') := by
  by_cases he : isB e = true
  · by_cases hx : mayB x = true
    · have hadd : M.add e x = M.put e x 0 := by unfold CM.add; rw [he, hx]; rfl
      rw [hadd]
      have hx' : mayB ⟨x.kind, x.id, x.len, x.rights⟩ = true := hx
      go_enter Try.func45, Try.ntmps45
      go_wp2_with (go_at_call 55; refine (is_any _ _).mono ?_; rintro r w' ⟨rfl, rfl⟩)
      refine (may_any _ _ _ _ _).mono ?_
      rintro r w1 ⟨rfl, hb⟩
      have hb0 : Below w.heap.size w w1 := ((Below.refl _ _).alloc (Nat.le_refl _) _).trans (hb.mono (by simp))
      have c0 : w1.cell? ⟨w.heap.size, 0, none⟩ = some (.int .i64 x.kind) := by rw [hb.cell (by simp)]; simp
      have c1 : w1.cell? ⟨w.heap.size, 1, none⟩ = some (.int .i64 x.id) := by rw [hb.cell (by simp)]; simp
      have c2 : w1.cell? ⟨w.heap.size, 2, none⟩ = some (.int .i64 x.len) := by rw [hb.cell (by simp)]; simp
      have c3 : w1.cell? ⟨w.heap.size, 3, none⟩ = some (.int .i64 x.rights) := by rw [hb.cell (by simp)]; simp
      clear hb
      obtain ⟨hw, hlt, f, hr, hFb, hFn⟩ := h.below hb0
      go_wp2_with fail
      refine (put_rep hw hlt hr hFb hFn e he x hx 0 (.inl rfl)).mono ?_
      rintro r w2 ⟨rfl, hm, hc⟩
      go_wp2
      go_ret2
      exact ⟨rfl, (Mod.of_below hb0).trans hm (fun _ _ h => h), hc.more (fun k hk => New.mono hb0.size k hk) (fun k hk => New.lt (fun k hk => h.lt k hk) (Nat.le_trans hb0.size hm.size) k hk)⟩
    · have hx : mayB x = false := by simpa using hx
      have hadd : M.add e x = (((0 : Int), (101 : Int)), M) := by unfold CM.add; rw [he, hx]; rfl
      rw [hadd]
      have hx' : mayB ⟨x.kind, x.id, x.len, x.rights⟩ = false := hx
      go_enter Try.func45, Try.ntmps45
      go_wp2_with (go_at_call 55; refine (is_any _ _).mono ?_; rintro r w' ⟨rfl, rfl⟩)
      refine (may_any _ _ _ _ _).mono ?_
      rintro r w1 ⟨rfl, hb⟩
      have hb0 : Below w.heap.size w w1 := ((Below.refl _ _).alloc (Nat.le_refl _) _).trans (hb.mono (by simp))
      go_wp2
      go_ret2
      exact ⟨rfl, Mod.of_below hb0, h.new hb0⟩
  · have he : isB e = false := by simpa using he
    have hadd : M.add e x = (((0 : Int), (101 : Int)), M) := by unfold CM.add; rw [he]; rfl
    rw [hadd]
    go_enter Try.func45, Try.ntmps45
    go_wp2_with (go_at_call 55; refine (is_any _ _).mono ?_; rintro r w' ⟨rfl, rfl⟩)
    go_ret2
    have hb0 : Below w.heap.size w (w.alloc (.cells #[.int .i64 x.kind, .int .i64 x.id, .int .i64 x.len, .int .i64 x.rights] 30)) := (Below.refl _ _).alloc (Nat.le_refl _) _
    exact ⟨rfl, Mod.of_below hb0, h.new hb0⟩

theorem give_any {w : World} {b : Nat} {M : CM} {F : Nat → Prop} (h : Caps w b M F) (e s to r : Int) :
    Calls Try.prog 47 #[.pointer (some ⟨b, 0, none⟩), .int .i64 e, .int .i64 s, .int .i64 to, .int .i64 r] w fun y w' =>
      y = .returned (.tuple #[.int .i64 (M.give e s to r).1.1, .int .i64 (M.give e s to r).1.2]) ∧ Mod F w w' ∧ Caps w' b (M.give e s to r).2 (New F w w') := by
  have h' := h
  obtain ⟨hw, hlt, f, hr, hFb, hFn⟩ := h'
  have hat := at_rep hw hr e s
  cases hf : findE M.L e s with
  | none =>
    rw [hf] at hat
    have hgive : M.give e s to r = (((0 : Int), (104 : Int)), M) := by unfold CM.give; rw [hf]
    rw [hgive]
    clear hr hFb hFn hgive hf
    go_enter Try.func47, Try.ntmps47
    go_wp2_with (go_at_call 61; refine hat.mono ?_; rintro y w' ⟨rfl, rfl⟩; simp only [ptrTo])
    go_ret2
    exact ⟨rfl, Mod.refl _ _, h.new (Below.refl _ _)⟩
  | some c =>
    rw [hf] at hat
    obtain ⟨hc, _, _⟩ := findE_some hf
    obtain ⟨c0, c1, c2, c3, _, _, _, _⟩ := hr.ncell hc
    have hmay := hw.may c hc
    have hcr : 0 ≤ c.x.rights ∧ c.x.rights ≤ 7 := by simp [mayB] at hmay; omega
    by_cases hg : grantB c.x.rights r = true
    · have hg' := hg
      simp [grantB] at hg'
      obtain ⟨⟨⟨g1, g2⟩, g3⟩, g4⟩ := hg'
      have k1 : (bits BinOp.and IntKind.i64 c.x.rights 4 == 0) = false := by rw [and_four _ hcr, g1]; rfl
      have k2 : (bits BinOp.and IntKind.i64 r c.x.rights == r) = true := by rw [and_sub' _ _ hcr ⟨by omega, by omega⟩, g4]
      have k3 : (bits BinOp.and IntKind.i64 r c.x.rights != r) = false := by rw [bne, k2]; rfl
      by_cases ht : isB to = true
      · have hgive : M.give e s to r = M.put to { c.x with rights := r } c.no := by unfold CM.give; rw [hf]; simp only; rw [if_pos hg, if_pos ht]
        rw [hgive]
        have hof : ofPtr f c.no = some ⟨f c.no, 0, none⟩ := by unfold ofPtr; rw [if_neg (by have := hw.no c hc; omega)]
        clear hgive k2 hf hg
        go_enter Try.func47, Try.ntmps47
        go_wp2_with (first | (go_at_call 61; refine hat.mono ?_; rintro y w' ⟨rfl, rfl⟩; simp only [ptrTo]) | (go_at_call 55; refine (is_any _ _).mono ?_; rintro y w' ⟨rfl, rfl⟩))
        have hb0 : Below w.heap.size w (w.alloc (.cells #[.int .i64 c.x.kind, .int .i64 c.x.id, .int .i64 c.x.len, .int .i64 r] 30)) := (Below.refl _ _).alloc (Nat.le_refl _) _
        have hr1 := hr.keep (hb0.block b (hlt b hFb)) (fun x hx => hb0.block _ (hlt _ (hFn x hx)))
        rw [← hof]
        refine (put_rep hw (fun k hk => Nat.lt_of_lt_of_le (hlt k hk) hb0.size) hr1 hFb hFn to ht { c.x with rights := r } (mayB_rights hmay g2 g3) c.no (.inr ⟨c, hc, rfl⟩)).mono ?_
        rintro y w2 ⟨rfl, hm, hc2⟩
        go_wp2
        go_ret2
        exact ⟨rfl, (Mod.of_below hb0).trans hm (fun _ _ h => h), hc2.more (fun k hk => New.mono hb0.size k hk) (fun k hk => New.lt hlt (Nat.le_trans hb0.size hm.size) k hk)⟩
      · have ht : isB to = false := by simpa using ht
        have hgive : M.give e s to r = (((0 : Int), (101 : Int)), M) := by unfold CM.give; rw [hf]; simp only; rw [if_pos hg, if_neg (by simp [ht])]
        rw [hgive]
        clear hgive k2 hf hg hr hFb hFn hc
        go_enter Try.func47, Try.ntmps47
        go_wp2_with (first | (go_at_call 61; refine hat.mono ?_; rintro y w' ⟨rfl, rfl⟩; simp only [ptrTo]) | (go_at_call 55; refine (is_any _ _).mono ?_; rintro y w' ⟨rfl, rfl⟩))
        go_ret2
        exact ⟨rfl, Mod.refl _ _, h.new (Below.refl _ _)⟩
    · have hgive : M.give e s to r = (((0 : Int), (104 : Int)), M) := by unfold CM.give; rw [hf]; simp only; rw [if_neg hg]
      rw [hgive]
      have hcases : (bits BinOp.and IntKind.i64 c.x.rights 4 == 0) = true ∨ ((bits BinOp.and IntKind.i64 c.x.rights 4 == 0) = false ∧ r < 1) ∨ ((bits BinOp.and IntKind.i64 c.x.rights 4 == 0) = false ∧ 1 ≤ r ∧ 7 < r) ∨
          ((bits BinOp.and IntKind.i64 c.x.rights 4 == 0) = false ∧ 1 ≤ r ∧ r ≤ 7 ∧ (bits BinOp.and IntKind.i64 r c.x.rights != r) = true) := by
        rw [and_four _ hcr]
        by_cases k1 : subB 4 c.x.rights = true
        · right
          by_cases k2 : r < 1
          · exact .inl ⟨by rw [k1]; rfl, k2⟩
          · right
            by_cases k3 : 7 < r
            · exact .inl ⟨by rw [k1]; rfl, by omega, k3⟩
            · right
              refine ⟨by rw [k1]; rfl, by omega, by omega, ?_⟩
              rw [bne, and_sub' _ _ hcr ⟨by omega, by omega⟩]
              have : subB r c.x.rights = false := by
                cases k4 : subB r c.x.rights with
                | false => rfl
                | true => exact absurd (by simp [grantB, k1, k4]; omega) hg
              rw [this]; rfl
        · left
          have : subB 4 c.x.rights = false := by simpa using k1
          rw [this]; rfl
      clear hgive hf hg hr hFb hFn hc
      rcases hcases with k1 | ⟨k1, k2⟩ | ⟨k1, k2, k3⟩ | ⟨k1, k2, k3, k4⟩
      all_goals
        go_enter Try.func47, Try.ntmps47
        go_wp2_with (go_at_call 61; refine hat.mono ?_; rintro y w' ⟨rfl, rfl⟩; simp only [ptrTo])
        go_ret2
        exact ⟨rfl, Mod.refl _ _, h.new (Below.refl _ _)⟩

end Go.Proofs.Ytpclhecpfjkehaa
