/- The capabilities as plain data (chapter 8): lists and whole numbers, no program and no memory. -/
import Derived.WalkKit
namespace Go.Proofs.Ytpclhecpfjkehaa

structure Cap where
  kind : Int
  id : Int
  len : Int
  rights : Int

structure CE where
  no : Int
  of : Int
  env : Int
  slot : Int
  x : Cap

structure CM where
  L : List CE
  last : Int

def isB (e : Int) : Bool := decide (0 ≤ e) && decide (e < 12)

def mayB (x : Cap) : Bool := (x.kind == 2 || (x.kind == 1 && x.len == 1)) && decide (0 ≤ x.id) && decide (x.id ≤ 1048576) && decide (1 ≤ x.len) && decide (x.len ≤ 1048576) && decide (1 ≤ x.rights) && decide (x.rights ≤ 7)

def findE (L : List CE) (e s : Int) : Option CE := L.find? fun c => c.env == e && c.slot == s

def freeGo (L : List CE) (e : Int) : Nat → Nat → Nat
  | 0, _ => 0
  | k + 1, s => if (findE L e s).isNone then s else freeGo L e k (s + 1)

def freeE (L : List CE) (e : Int) : Nat := freeGo L e 64 1

def CM.put (M : CM) (e : Int) (x : Cap) (of : Int) : (Int × Int) × CM :=
  if freeE M.L e = 0 then ((0, 105), M) else (((freeE M.L e : Nat), 0), ⟨M.L ++ [⟨M.last + 1, of, e, (freeE M.L e : Nat), x⟩], M.last + 1⟩)

def CM.add (M : CM) (e : Int) (x : Cap) : (Int × Int) × CM :=
  if isB e && mayB x then M.put e x 0 else ((0, 101), M)

/-- Are the rights r among c? (both below 8) -/
def subB (r c : Int) : Bool := (r.toNat &&& c.toNat) == r.toNat

def grantB (c r : Int) : Bool := subB 4 c && decide (1 ≤ r) && decide (r ≤ 7) && subB r c

def CM.give (M : CM) (e s to r : Int) : (Int × Int) × CM :=
  match findE M.L e s with
  | none => ((0, 104), M)
  | some c => if grantB c.x.rights r then (if isB to then M.put to { c.x with rights := r } c.no else ((0, 101), M)) else ((0, 104), M)

def meetB (a b : Cap) : Bool := a.kind == b.kind && decide (a.id < b.id + b.len) && decide (b.id < a.id + a.len)

def reof (g : CE) (c : CE) : CE := if c.of = g.no then { c with of := g.of } else c

def dropLast (L : List CE) (g : CE) : Bool := (L.filter fun c => !(c.no == g.no)).all fun c => !meetB c.x g.x

def CM.drop (M : CM) (e s : Int) : (Bool × Int) × CM :=
  match findE M.L e s with
  | none => ((false, 104), M)
  | some g => ((dropLast M.L g, 0), ⟨(M.L.filter fun c => !(c.no == g.no)).map (reof g), M.last⟩)

def underK (L : List CE) (t : Int) : Nat → CE → Bool
  | 0, _ => false
  | k + 1, c => c.of == t || (match L.find? (fun d => d.no == c.of) with | none => false | some d => underK L t k d)

def underB (L : List CE) (t : Int) (c : CE) : Bool := underK L t c.no.toNat c

def revCount (L : List CE) (t : Int) : Int := ((L.filter fun c => underB L t c).length : Nat)

def CM.revoke (M : CM) (e s : Int) : (Int × Int) × CM :=
  match findE M.L e s with
  | none => ((0, 104), M)
  | some t => ((revCount M.L t.no, 0), ⟨M.L.filter fun c => !underB M.L t.no c, M.last⟩)

def coverB (x : Cap) (kind id rights : Int) : Bool := x.kind == kind && decide (x.id ≤ id) && decide (id < x.id + x.len) && subB rights x.rights

def CM.has (M : CM) (e kind id rights : Int) : Bool := M.L.any fun c => c.env == e && coverB c.x kind id rights

def CM.holders (M : CM) (kind id : Int) : List Int := ((List.range 12).filter fun e : Nat => M.has (e : Int) kind id 0).map fun e : Nat => (e : Int)

def CM.goneTo (M : CM) (e : Int) : Nat → CM
  | 0 => M
  | k + 1 => ((M.goneTo e k).drop e ((k : Int) + 1)).2

def CM.gone (M : CM) (e : Int) : CM := M.goneTo e 64

def CM.empty : CM := ⟨[], 0⟩

/-- What holds of all that the functions above make. -/
structure CM.WF (M : CM) : Prop where
  last : 0 ≤ M.last
  no : ∀ c ∈ M.L, 1 ≤ c.no ∧ c.no ≤ M.last
  uno : ∀ c ∈ M.L, ∀ d ∈ M.L, c.no = d.no → c = d
  upl : ∀ c ∈ M.L, ∀ d ∈ M.L, c.env = d.env → c.slot = d.slot → c = d
  env : ∀ c ∈ M.L, 0 ≤ c.env ∧ c.env < 12 ∧ 1 ≤ c.slot ∧ c.slot ≤ 64
  may : ∀ c ∈ M.L, mayB c.x = true
  of : ∀ c ∈ M.L, c.of = 0 ∨ ∃ d ∈ M.L, d.no = c.of ∧ d.no < c.no
  nd : M.L.Pairwise fun a b => a.no ≠ b.no

theorem CM.WF.ofEmpty : CM.empty.WF := by
  constructor <;> intros <;> simp_all [CM.empty]

/-! ### find, free -/
theorem findE_some {L : List CE} {e s : Int} {c : CE} (h : findE L e s = some c) : c ∈ L ∧ c.env = e ∧ c.slot = s := by
  have h1 := List.mem_of_find?_eq_some h
  have h2 := List.find?_some h
  simp at h2
  exact ⟨h1, h2.1, h2.2⟩

theorem findE_none {L : List CE} {e s : Int} (h : findE L e s = none) : ∀ c ∈ L, ¬ (c.env = e ∧ c.slot = s) := by
  intro c hc
  have := List.find?_eq_none.1 h c hc
  simpa using this

theorem findE_of {M : CM} (hw : M.WF) {c : CE} (hc : c ∈ M.L) : findE M.L c.env c.slot = some c := by
  cases h : findE M.L c.env c.slot with
  | none => exact absurd ⟨rfl, rfl⟩ (findE_none h c hc)
  | some d =>
    obtain ⟨h1, h2, h3⟩ := findE_some h
    rw [hw.upl d h1 c hc h2 h3]

theorem findE_out {M : CM} (hw : M.WF) {e s : Int} (h : ¬ (0 ≤ e ∧ e < 12 ∧ 1 ≤ s ∧ s ≤ 64)) : findE M.L e s = none := by
  cases h' : findE M.L e s with
  | none => rfl
  | some c =>
    obtain ⟨h1, rfl, rfl⟩ := findE_some h'
    exact absurd (hw.env c h1) h

theorem freeGo_spec (L : List CE) (e : Int) : ∀ (k s : Nat), 1 ≤ s →
    (freeGo L e k s = 0 ∧ ∀ j : Nat, s ≤ j → j < s + k → (findE L e j).isSome) ∨
    (s ≤ freeGo L e k s ∧ freeGo L e k s < s + k ∧ findE L e (freeGo L e k s : Nat) = none ∧ ∀ j : Nat, s ≤ j → j < freeGo L e k s → (findE L e j).isSome) := by
  intro k
  induction k with
  | zero => intro s _; left; exact ⟨rfl, fun j h1 h2 => by omega⟩
  | succ k ih =>
    intro s hs
    unfold freeGo
    by_cases h : (findE L e s).isNone = true
    · rw [if_pos h]
      right
      exact ⟨Nat.le_refl _, by omega, by simpa using h, fun j h1 h2 => by omega⟩
    · rw [if_neg h]
      have hsome : (findE L e s).isSome = true := by
        cases hf : findE L e s <;> simp [hf] at h ⊢
      rcases ih (s + 1) (by omega) with ⟨h0, h1⟩ | ⟨h0, h1, h2, h3⟩
      · left
        refine ⟨h0, fun j hj1 hj2 => ?_⟩
        by_cases hj : j = s
        · subst hj; exact hsome
        · exact h1 j (by omega) (by omega)
      · right
        refine ⟨by omega, by omega, h2, fun j hj1 hj2 => ?_⟩
        by_cases hj : j = s
        · subst hj; exact hsome
        · exact h3 j (by omega) hj2

theorem freeE_zero {L : List CE} {e : Int} (h : freeE L e = 0) : ∀ j : Nat, 1 ≤ j → j ≤ 64 → ∃ c, findE L e j = some c := by
  intro j h1 h2
  rcases freeGo_spec L e 64 1 (by omega) with ⟨_, hj⟩ | ⟨h3, _⟩
  · exact Option.isSome_iff_exists.1 (hj j h1 (by omega))
  · have : freeGo L e 64 1 = 0 := h
    omega

theorem freeE_pos {L : List CE} {e : Int} (h : freeE L e ≠ 0) : 1 ≤ freeE L e ∧ freeE L e ≤ 64 ∧ findE L e (freeE L e : Nat) = none ∧ ∀ j : Nat, 1 ≤ j → j < freeE L e → ∃ c, findE L e j = some c := by
  rcases freeGo_spec L e 64 1 (by omega) with ⟨h0, _⟩ | ⟨h3, h4, h5, h6⟩
  · exact absurd h0 h
  · exact ⟨h3, by unfold freeE; omega, h5, fun j h1 h2 => Option.isSome_iff_exists.1 (h6 j h1 h2)⟩

theorem findE_append (L : List CE) (d : CE) (e s : Int) : findE (L ++ [d]) e s = match findE L e s with | some c => some c | none => if d.env = e ∧ d.slot = s then some d else none := by
  unfold findE
  rw [List.find?_append]
  cases h : List.find? (fun c => c.env == e && c.slot == s) L with
  | some c => simp
  | none => 
    by_cases hd : d.env = e ∧ d.slot = s
    · simp [hd]
    · simp only [if_neg hd, Option.none_or]
      rw [List.find?_eq_none]
      intro x hx
      simp at hx
      subst hx
      simpa using hd

/-! ### WF is kept -/
theorem CM.WF.put {M : CM} (hw : M.WF) {e : Int} {x : Cap} {of : Int} (he : isB e = true) (hx : mayB x = true) (ho : of = 0 ∨ ∃ d ∈ M.L, d.no = of) : (M.put e x of).2.WF := by
  unfold CM.put
  by_cases h : freeE M.L e = 0
  · rw [if_pos h]; exact hw
  · rw [if_neg h]
    obtain ⟨h1, h2, h3, _⟩ := freeE_pos h
    have hn := findE_none h3
    have hl := hw.last
    simp [isB] at he
    constructor
    · show 0 ≤ M.last + 1; omega
    · intro c hc
      simp only [List.mem_append, List.mem_singleton] at hc
      rcases hc with hc | rfl
      · have := hw.no c hc; show 1 ≤ c.no ∧ c.no ≤ M.last + 1; omega
      · show 1 ≤ M.last + 1 ∧ M.last + 1 ≤ M.last + 1; omega
    · intro c hc d hd hcd
      simp only [List.mem_append, List.mem_singleton] at hc hd
      rcases hc with hc | rfl <;> rcases hd with hd | rfl
      · exact hw.uno c hc d hd hcd
      · have := hw.no c hc; simp at hcd; omega
      · have := hw.no d hd; simp at hcd; omega
      · rfl
    · intro c hc d hd h4 h5
      simp only [List.mem_append, List.mem_singleton] at hc hd
      rcases hc with hc | rfl <;> rcases hd with hd | rfl
      · exact hw.upl c hc d hd h4 h5
      · exact absurd ⟨h4, h5⟩ (hn c hc)
      · exact absurd ⟨h4.symm, h5.symm⟩ (hn d hd)
      · rfl
    · intro c hc
      simp only [List.mem_append, List.mem_singleton] at hc
      rcases hc with hc | rfl
      · exact hw.env c hc
      · refine ⟨he.1, he.2, ?_, ?_⟩
        · show (1 : Int) ≤ ((freeE M.L e : Nat) : Int); omega
        · show ((freeE M.L e : Nat) : Int) ≤ 64; omega
    · intro c hc
      simp only [List.mem_append, List.mem_singleton] at hc
      rcases hc with hc | rfl
      · exact hw.may c hc
      · exact hx
    · intro c hc
      simp only [List.mem_append, List.mem_singleton] at hc
      rcases hc with hc | rfl
      · rcases hw.of c hc with h0 | ⟨d, hd, hd1, hd2⟩
        · exact .inl h0
        · exact .inr ⟨d, by simp [hd], hd1, hd2⟩
      · rcases ho with h0 | ⟨d, hd, hd1⟩
        · exact .inl h0
        · exact .inr ⟨d, by simp [hd], hd1, by have := hw.no d hd; show d.no < M.last + 1; omega⟩
    · show (M.L ++ [_]).Pairwise _
      rw [List.pairwise_append]
      refine ⟨hw.nd, List.pairwise_singleton _ _, fun c hc d hd => ?_⟩
      simp only [List.mem_singleton] at hd
      subst hd
      have := hw.no c hc
      show c.no ≠ M.last + 1
      omega

theorem CM.WF.add {M : CM} (hw : M.WF) (e : Int) (x : Cap) : (M.add e x).2.WF := by
  unfold CM.add
  split
  · rename_i h
    simp at h
    exact hw.put h.1 h.2 (.inl rfl)
  · exact hw

theorem mayB_rights {x : Cap} {r : Int} (h : mayB x = true) (h1 : 1 ≤ r) (h2 : r ≤ 7) : mayB { x with rights := r } = true := by
  simp [mayB] at h ⊢
  omega

theorem CM.WF.give {M : CM} (hw : M.WF) (e s to r : Int) : (M.give e s to r).2.WF := by
  unfold CM.give
  split
  · exact hw
  · rename_i c hc
    obtain ⟨h1, _, _⟩ := findE_some hc
    split
    · rename_i hg
      split
      · rename_i ht
        simp [grantB] at hg
        exact hw.put ht (mayB_rights (hw.may c h1) hg.1.1.2 hg.1.2) (.inr ⟨c, h1, rfl⟩)
      · exact hw
    · exact hw

theorem reof_no (g c : CE) : (reof g c).no = c.no := by unfold reof; split <;> rfl
theorem reof_env (g c : CE) : (reof g c).env = c.env := by unfold reof; split <;> rfl
theorem reof_slot (g c : CE) : (reof g c).slot = c.slot := by unfold reof; split <;> rfl
theorem reof_x (g c : CE) : (reof g c).x = c.x := by unfold reof; split <;> rfl

theorem mem_drop {L : List CE} {g d : CE} : d ∈ (L.filter fun c => !(c.no == g.no)).map (reof g) ↔ ∃ c ∈ L, c.no ≠ g.no ∧ reof g c = d := by
  simp [List.mem_map, List.mem_filter, and_assoc]

theorem CM.WF.drop {M : CM} (hw : M.WF) (e s : Int) : (M.drop e s).2.WF := by
  unfold CM.drop
  split
  · exact hw
  · rename_i g hg
    obtain ⟨hgm, _, _⟩ := findE_some hg
    constructor
    · exact hw.last
    · intro d hd
      obtain ⟨c, hc, _, rfl⟩ := mem_drop.1 hd
      rw [reof_no]; exact hw.no c hc
    · intro d hd d' hd' h
      obtain ⟨c, hc, _, rfl⟩ := mem_drop.1 hd
      obtain ⟨c', hc', _, rfl⟩ := mem_drop.1 hd'
      rw [reof_no, reof_no] at h
      rw [hw.uno c hc c' hc' h]
    · intro d hd d' hd' h h'
      obtain ⟨c, hc, _, rfl⟩ := mem_drop.1 hd
      obtain ⟨c', hc', _, rfl⟩ := mem_drop.1 hd'
      rw [reof_env, reof_env] at h
      rw [reof_slot, reof_slot] at h'
      rw [hw.upl c hc c' hc' h h']
    · intro d hd
      obtain ⟨c, hc, _, rfl⟩ := mem_drop.1 hd
      rw [reof_env, reof_slot]; exact hw.env c hc
    · intro d hd
      obtain ⟨c, hc, _, rfl⟩ := mem_drop.1 hd
      rw [reof_x]; exact hw.may c hc
    · intro d hd
      obtain ⟨c, hc, hne, rfl⟩ := mem_drop.1 hd
      by_cases hof : c.of = g.no
      · have e1 : (reof g c).of = g.of := by unfold reof; rw [if_pos hof]
        rw [e1, reof_no]
        rcases hw.of g hgm with h0 | ⟨p, hp, hp1, hp2⟩
        · exact .inl h0
        · right
          refine ⟨reof g p, mem_drop.2 ⟨p, hp, by omega, rfl⟩, by rw [reof_no]; exact hp1, ?_⟩
          rw [reof_no]
          rcases hw.of c hc with h0 | ⟨q, hq, hq1, hq2⟩
          · have := hw.no g hgm; omega
          · omega
      · have e1 : (reof g c).of = c.of := by unfold reof; rw [if_neg hof]
        rw [e1, reof_no]
        rcases hw.of c hc with h0 | ⟨p, hp, hp1, hp2⟩
        · exact .inl h0
        · right
          exact ⟨reof g p, mem_drop.2 ⟨p, hp, by omega, rfl⟩, by rw [reof_no]; exact hp1, by rw [reof_no]; exact hp2⟩
    · show ((M.L.filter fun c => !(c.no == g.no)).map (reof g)).Pairwise _
      rw [List.pairwise_map]
      refine (hw.nd.filter _).imp ?_
      intro a b h
      rw [reof_no, reof_no]; exact h

/-! ### under -/
theorem underK_enough {M : CM} (hw : M.WF) (t : Int) : ∀ (k : Nat) (c : CE), c ∈ M.L → c.no.toNat ≤ k → ∀ j, c.no.toNat ≤ j → underK M.L t k c = underK M.L t j c := by
  intro k
  induction k with
  | zero => intro c hc h; have := hw.no c hc; omega
  | succ k ih =>
    intro c hc hk j hj
    have hc1 := hw.no c hc
    obtain ⟨j, rfl⟩ : ∃ i, j = i + 1 := ⟨j - 1, by omega⟩
    simp only [underK]
    cases h : M.L.find? (fun d => d.no == c.of) with
    | none => rfl
    | some d =>
      have hd := List.mem_of_find?_eq_some h
      have hd' := List.find?_some h
      simp at hd'
      rcases hw.of c hc with h0 | ⟨p, hp, hp1, hp2⟩
      · have := hw.no d hd; omega
      · show (c.of == t || underK M.L t k d) = (c.of == t || underK M.L t j d)
        rw [ih d hd (by omega) j (by omega)]

theorem find_no {M : CM} (hw : M.WF) {d : CE} (hd : d ∈ M.L) : M.L.find? (fun c => c.no == d.no) = some d := by
  cases h : M.L.find? (fun c => c.no == d.no) with
  | none => have := List.find?_eq_none.1 h d hd; simp at this
  | some c =>
    have h1 := List.mem_of_find?_eq_some h
    have h2 := List.find?_some h
    simp at h2
    rw [hw.uno c h1 d hd h2]

theorem underB_step {M : CM} (hw : M.WF) (t : Int) {c : CE} (hc : c ∈ M.L) (ht : 0 < t) :
    underB M.L t c = (if c.of = 0 then false else c.of == t || (match M.L.find? (fun d => d.no == c.of) with | none => false | some d => underB M.L t d)) := by
  have hc1 := hw.no c hc
  unfold underB
  obtain ⟨k, hk⟩ : ∃ i, c.no.toNat = i + 1 := ⟨c.no.toNat - 1, by omega⟩
  rw [hk]
  simp only [underK]
  rcases hw.of c hc with h0 | ⟨p, hp, hp1, hp2⟩
  · rw [if_pos h0]
    have hf : M.L.find? (fun d => d.no == c.of) = none := by
      rw [List.find?_eq_none]
      intro d hd
      have := hw.no d hd
      simp; omega
    rw [hf]; simp; omega
  · rw [if_neg (by have := hw.no p hp; omega)]
    have hf := find_no hw hp
    rw [← hp1, hf]
    simp only
    rw [underK_enough hw t k p hp (by omega) p.no.toNat (Nat.le_refl _)]

theorem underB_zero {M : CM} (hw : M.WF) (t : Int) {c : CE} (hc : c ∈ M.L) (ht : 0 < t) (h0 : c.of = 0) : underB M.L t c = false := by
  rw [underB_step hw t hc ht, if_pos h0]

theorem underB_of {M : CM} (hw : M.WF) (t : Int) {c p : CE} (hc : c ∈ M.L) (ht : 0 < t) (hp : p ∈ M.L) (h : c.of = p.no) : underB M.L t c = (p.no == t || underB M.L t p) := by
  have := hw.no p hp
  rw [underB_step hw t hc ht, if_neg (by omega), h, find_no hw hp]

theorem CM.WF.revoke {M : CM} (hw : M.WF) (e s : Int) : (M.revoke e s).2.WF := by
  unfold CM.revoke
  split
  · exact hw
  · rename_i t ht
    obtain ⟨htm, _, _⟩ := findE_some ht
    have ht0 := (hw.no t htm).1
    have hin : ∀ c, c ∈ (M.L.filter fun c => !underB M.L t.no c) ↔ c ∈ M.L ∧ underB M.L t.no c = false := by
      intro c; simp [List.mem_filter]
    constructor
    · exact hw.last
    · intro c hc; exact hw.no c ((hin c).1 hc).1
    · intro c hc d hd h; exact hw.uno c ((hin c).1 hc).1 d ((hin d).1 hd).1 h
    · intro c hc d hd h h'; exact hw.upl c ((hin c).1 hc).1 d ((hin d).1 hd).1 h h'
    · intro c hc; exact hw.env c ((hin c).1 hc).1
    · intro c hc; exact hw.may c ((hin c).1 hc).1
    · intro c hc
      obtain ⟨hc, hu⟩ := (hin c).1 hc
      rcases hw.of c hc with h0 | ⟨p, hp, hp1, hp2⟩
      · exact .inl h0
      · right
        refine ⟨p, (hin p).2 ⟨hp, ?_⟩, hp1, hp2⟩
        rw [underB_of hw t.no hc (by omega) hp hp1.symm] at hu
        simp at hu
        exact hu.2
    · exact hw.nd.filter _

theorem CM.WF.goneTo {M : CM} (hw : M.WF) (e : Int) (k : Nat) : (M.goneTo e k).WF := by
  induction k with
  | zero => exact hw
  | succ k ih => exact ih.drop e _

theorem CM.WF.gone {M : CM} (hw : M.WF) (e : Int) : (M.gone e).WF := hw.goneTo e 64

theorem CM.WF.nodup {M : CM} (hw : M.WF) : M.L.Nodup := hw.nd.imp fun h e => h (congrArg CE.no e)

theorem findE_filterP {M : CM} (hw : M.WF) (p : CE → Bool) (e s : Int) : findE (M.L.filter p) e s = (findE M.L e s).filter p := by
  cases h : findE (M.L.filter p) e s with
  | none =>
    cases h2 : findE M.L e s with
    | none => rfl
    | some c =>
      obtain ⟨hc, h3, h4⟩ := findE_some h2
      cases hp : p c with
      | false => simp [Option.filter, hp]
      | true => exact absurd ⟨h3, h4⟩ (findE_none h c (by simp [List.mem_filter, hc, hp]))
  | some c =>
    obtain ⟨hc, h3, h4⟩ := findE_some h
    simp only [List.mem_filter] at hc
    rw [← h3, ← h4, findE_of hw hc.1]
    simp [Option.filter, hc.2]

end Go.Proofs.Ytpclhecpfjkehaa
