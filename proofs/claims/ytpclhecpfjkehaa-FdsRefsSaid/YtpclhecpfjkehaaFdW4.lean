/- fds: what a store does to the descriptors; Get, Seek, Close, Dup, Open. -/
import Derived.Test.YtpclhecpfjkehaaFdW3
namespace Go.Proofs.Ytpclhecpfjkehaa
open Go.RowKit

theorem tell_put (M : FM) (i : Nat) (v : Option Nat) (m : Nat) : (M.put i v).tell m = ⟨M.fd m, (M.put i v).refs m⟩ := rfl

/-- A descriptor's cell and the count of one file are written. -/
theorem FRep.put {w w' : World} {b : Nat} {M : FM} {f : Nat → Nat} (h : FRep w b M f) (hw : M.WF) {i n : Nat} (hi : i < 48) (hn : n < M.x.length) (v : Option Nat) (r : Int)
    (hs : Same w' ((w.setCell ⟨f n, 4, none⟩ (.int .i64 r)).setCell ⟨b, i, none⟩ (.pointer (ptrF f v)))) (hr : (M.put i v).refs n = r) (ho : ∀ m, m ≠ n → (M.put i v).refs m = M.refs m) : FRep w' b (M.put i v) f := by
  have hne := h.ne hn
  obtain ⟨⟨c, h1, h2, h3⟩, h4, h5⟩ := h
  refine ⟨⟨c.setIfInBounds i (.pointer (ptrF f v)), ?_, by simpa using h2, fun j hj => ?_⟩, fun m hm => ?_, h5⟩
  · rw [hs.1]
    exact heap_setCell_eq (by rw [heap_setCell_ne _ _ _ _ (by show b ≠ f n; exact Ne.symm hne)]; exact h1)
  · rw [FM.get_put hw v hi]
    by_cases hij : i = j
    · subst hij
      rw [if_pos rfl, Array.getElem?_setIfInBounds_self_of_lt (by omega)]
    · rw [if_neg hij, Array.getElem?_setIfInBounds_ne hij, h3 j hj]
  · have hm' : m < M.x.length := hm
    have hmb : f m ≠ b := by
      intro e
      have h6 := h4 m hm'
      rw [e, h1] at h6
      injection h6 with h6
      injection h6 with _ h6
      exact absurd h6 (by decide)
    rw [hs.1, heap_setCell_ne _ _ _ _ (by show f m ≠ b; exact hmb)]
    by_cases hmn : m = n
    · subst hmn
      rw [heap_setCell_eq (h4 m hm'), tell_put, hr]
      rfl
    · rw [heap_setCell_ne _ _ _ _ (by show f m ≠ f n; exact fun e => hmn (h5 m n hm' hn e)), h4 m hm', tell_put, ho m hmn]
      rfl

theorem FRep.link {w w' : World} {b : Nat} {M : FM} {f : Nat → Nat} (h : FRep w b M f) (hw : M.WF) {i n : Nat} (hi : i < 48) (hn : n < M.x.length) (hf : M.get i = none)
    (hs : Same w' ((w.setCell ⟨f n, 4, none⟩ (.int .i64 (M.refs n + 1))).setCell ⟨b, i, none⟩ (.pointer (some ⟨f n, 0, none⟩)))) : FRep w' b (M.put i (some n)) f :=
  h.put hw hi hn (some n) _ hs (by rw [FM.refs_put hw _ hi, hf]; simp) (fun m hm => by rw [FM.refs_put hw _ hi, hf]; simp; omega)

theorem FRep.unlink {w w' : World} {b : Nat} {M : FM} {f : Nat → Nat} (h : FRep w b M f) (hw : M.WF) {i n : Nat} (hi : i < 48) (hn : n < M.x.length) (hf : M.get i = some n)
    (hs : Same w' ((w.setCell ⟨f n, 4, none⟩ (.int .i64 (M.refs n - 1))).setCell ⟨b, i, none⟩ (.pointer none))) : FRep w' b (M.put i none) f :=
  h.put hw hi hn none _ hs (by rw [FM.refs_put hw _ hi, hf]; simp) (fun m hm => by rw [FM.refs_put hw _ hi, hf]; simp; omega)

theorem Fds.set {w w' : World} {b : Nat} {M M' : FM} {F : Nat → Prop} {f : Nat → Nat} (hlt : ∀ k, F k → k < w.heap.size) (hb : F b) (hf : ∀ n, n < M.x.length → F (f n)) (hx : M'.x.length = M.x.length) (hw : M'.WF) (hm : Mod F w w') (hr : FRep w' b M' f) : Fds w' b M' (New F w w') :=
  ⟨hw, fun k hk => NewF.lt hlt hm.size k hk, f, hr, .inl hb, fun n hn => .inl (hf n (by omega))⟩

def ftA (T : FT) : Value := .agg #[.int .i64 T.x.kind, .int .i64 T.x.id, .int .i64 T.x.off, .bool T.x.app, .int .i64 T.refs]

theorem fget {w : World} {b : Nat} {M : FM} {F : Nat → Prop} (h : Fds w b M F) (p d : Int) :
    Calls Try.prog 30 #[.pointer (some ⟨b, 0, none⟩), .int .i64 p, .int .i64 d] w fun r w' =>
      r = .returned (.tuple #[ftA (M.at p d).1, .int .i64 (M.at p d).2]) ∧ Below w.heap.size w w' := by
  obtain ⟨hw, hlt, f, hr, hFb, hFn⟩ := h
  have hb0 : Below w.heap.size w (w.alloc (.cells #[.int .i64 0, .int .i64 0, .int .i64 0, .bool false, .int .i64 0] 56)) := (Below.refl _ _).alloc (Nat.le_refl _) _
  have hr1 : FRep (w.alloc (.cells #[.int .i64 0, .int .i64 0, .int .i64 0, .bool false, .int .i64 0] 56)) b M f :=
    hr.keep (hb0.block b (hlt b hFb)) (fun n hn => hb0.block _ (hlt _ (hFn n hn)))
  have hfi := ffile hr1 p d
  cases hf : M.file p d with
  | none =>
    have hM : M.at p d = (FT.zero, 9) := by unfold FM.at; rw [hf]
    rw [hf] at hfi
    rw [hM]
    clear hr hr1 hM
    go_enter Try.func30, Try.ntmps30
    go_wp2_with fail
    refine hfi.mono ?_
    rintro r w' ⟨rfl, rfl⟩
    simp only [ptrF]
    clear hfi
    go_wp2
    exact bodyPost_ret (v := .tuple #[.agg #[.int .i64 0, .int .i64 0, .int .i64 0, .bool false, .int .i64 0], .int .i64 9]) (by simp [results, Try.results30, go_sem]) rfl ⟨rfl, (Below.refl _ _).alloc (Nat.le_refl _) _⟩
  | some n =>
    have hM : M.at p d = (M.tell n, 0) := by unfold FM.at; rw [hf]
    obtain ⟨_, _, hg⟩ := FM.file_some hf
    have hn := FM.get_lt hw hg
    obtain ⟨c0, c1, c2, c3, c4, _⟩ := hr.fcell hn
    have hl : f n < w.heap.size := hlt _ (hFn n hn)
    rw [hf] at hfi
    rw [hM]
    clear hr hr1 hM hg
    go_enter Try.func30, Try.ntmps30
    go_wp2_with fail
    refine hfi.mono ?_
    rintro r w' ⟨rfl, rfl⟩
    simp only [ptrF]
    clear hfi
    go_wp2
    exact bodyPost_ret (v := .tuple #[ftA (M.tell n), .int .i64 0]) (by simp [results, Try.results30, go_sem, ftA, FM.tell]) rfl ⟨rfl, (Below.refl _ _).alloc (Nat.le_refl _) _⟩

theorem fseek {w : World} {b : Nat} {M : FM} {F : Nat → Prop} (h : Fds w b M F) (p d o : Int) :
    Calls Try.prog 32 #[.pointer (some ⟨b, 0, none⟩), .int .i64 p, .int .i64 d, .int .i64 o] w fun r w' =>
      r = .returned (.int .i64 (M.seek p d o).1) ∧ Mod F w w' ∧ Fds w' b (M.seek p d o).2 (New F w w') := by
  have h0 := h
  obtain ⟨hw, hlt, f, hr, hFb, hFn⟩ := h
  have hfi := ffile hr p d
  cases hf : M.file p d with
  | none =>
    have hM : M.seek p d o = (9, M) := by unfold FM.seek; rw [hf]
    have HN := Lib.hid (h0.new (Below.refl _ _))
    rw [hf] at hfi
    rw [hM]
    clear hr hM h0
    go_enter Try.func32, Try.ntmps32
    go_wp2_with fail
    refine hfi.mono ?_
    rintro r w' ⟨rfl, rfl⟩
    simp only [ptrF]
    clear hfi
    go_wp2
    go_ret
    exact ⟨rfl, Mod.refl _ _, HN.out⟩
  | some n =>
    obtain ⟨_, _, hg⟩ := FM.file_some hf
    have hn := FM.get_lt hw hg
    rw [hf] at hfi
    by_cases ho : o < 0
    · have hM : M.seek p d o = (22, M) := by unfold FM.seek; rw [hf]; simp [ho]
      have HN := Lib.hid (h0.new (Below.refl _ _))
      rw [hM]
      clear hr hM h0 hg
      go_enter Try.func32, Try.ntmps32
      go_wp2_with fail
      refine hfi.mono ?_
      rintro r w' ⟨rfl, rfl⟩
      simp only [ptrF]
      clear hfi
      go_wp2
      go_ret
      exact ⟨rfl, Mod.refl _ _, HN.out⟩
    · have hM : M.seek p d o = (0, ⟨M.t, M.x.set n { M.fd n with off := o }⟩) := by unfold FM.seek; rw [hf]; simp [ho]
      obtain ⟨_, _, c2, _, _, cf⟩ := hr.fcell hn
      have cf2 := cf 2
      have hm : Mod F w (w.setCell ⟨f n, 2, none⟩ (.int .i64 o)) := (Mod.refl F w).setCell (fun _ => hFn n hn) _
      have hr2 : FRep (w.setCell ⟨f n, 2, none⟩ (.int .i64 o)) b ⟨M.t, M.x.set n { M.fd n with off := o }⟩ f := by
        have hne := hr.ne hn
        obtain ⟨⟨c, h1, h2, h3⟩, h4, h5⟩ := hr
        refine ⟨⟨c, ?_, h2, h3⟩, fun m hm => ?_, fun a e ha he => h5 a e (by simpa using ha) (by simpa using he)⟩
        · rw [heap_setCell_ne _ _ _ _ (by show b ≠ f n; exact Ne.symm hne)]; exact h1
        · have hm' : m < M.x.length := by simpa using hm
          by_cases hmn : m = n
          · subst hmn
            rw [heap_setCell_eq (h4 m hm')]
            have : (⟨M.t, M.x.set m { M.fd m with off := o }⟩ : FM).tell m = ⟨{ M.fd m with off := o }, M.refs m⟩ := by
              unfold FM.tell FM.fd
              simp [hm']
              rfl
            rw [this]
            rfl
          · rw [heap_setCell_ne _ _ _ _ (by show f m ≠ f n; exact fun e => hmn (h5 m n hm' hn e)), h4 m hm']
            have : (⟨M.t, M.x.set n { M.fd n with off := o }⟩ : FM).tell m = M.tell m := by
              unfold FM.tell FM.fd
              simp [Ne.symm hmn]
              rfl
            rw [this]
      have HN := Lib.hid (Fds.set (M := M) (M' := ⟨M.t, M.x.set n { M.fd n with off := o }⟩) hlt hFb hFn (by simp) ⟨hw.len, fun m hm => by have := hw.lt m hm; simpa using this⟩ hm hr2)
      have HM := Lib.hid hm
      rw [hM]
      clear hr hM h0 hg hr2 hm cf
      go_enter Try.func32, Try.ntmps32
      go_wp2_with fail
      refine hfi.mono ?_
      rintro r w' ⟨rfl, rfl⟩
      simp only [ptrF]
      clear hfi
      go_wp2
      go_ret
      exact ⟨rfl, HM.out, HN.out⟩

theorem size_of_setCellF (w : World) (a : Addr) (u : Value) : (w.setCell a u).heap.size = w.heap.size := by simp [World.setCell]

set_option maxRecDepth 100000 in
theorem fclose {w : World} {b : Nat} {M : FM} {F : Nat → Prop} (h : Fds w b M F) (p d : Int) :
    Calls Try.prog 27 #[.pointer (some ⟨b, 0, none⟩), .int .i64 p, .int .i64 d] w fun r w' =>
      r = .returned (.tuple #[ftA (M.close p d).1.1, .int .i64 (M.close p d).1.2]) ∧ Mod F w w' ∧ Fds w' b (M.close p d).2 (New F w w') := by
  have h0 := h
  obtain ⟨hw, hlt, f, hr, hFb, hFn⟩ := h
  have hb0 : Below w.heap.size w (w.alloc (.cells #[.int .i64 0, .int .i64 0, .int .i64 0, .bool false, .int .i64 0] 56)) := (Below.refl _ _).alloc (Nat.le_refl _) _
  have hr1 : FRep (w.alloc (.cells #[.int .i64 0, .int .i64 0, .int .i64 0, .bool false, .int .i64 0] 56)) b M f :=
    hr.keep (hb0.block b (hlt b hFb)) (fun n hn => hb0.block _ (hlt _ (hFn n hn)))
  have hfi := ffile hr1 p d
  cases hf : M.file p d with
  | none =>
    have hM : M.close p d = ((FT.zero, 9), M) := by unfold FM.close; rw [hf]
    have HN := Lib.hid (h0.new hb0)
    have HB := Lib.hid hb0
    rw [hf] at hfi
    rw [hM]
    clear hr hr1 hM h0 hb0
    go_enter Try.func27, Try.ntmps27
    go_wp2_with fail
    refine hfi.mono ?_
    rintro r w' ⟨rfl, rfl⟩
    simp only [ptrF]
    clear hfi
    go_wp2
    exact bodyPost_ret (v := .tuple #[.agg #[.int .i64 0, .int .i64 0, .int .i64 0, .bool false, .int .i64 0], .int .i64 9]) (by simp [results, Try.results27, go_sem]) rfl ⟨rfl, Mod.of_below HB.out, HN.out⟩
  | some n =>
    obtain ⟨hp, hd, hg⟩ := FM.file_some hf
    have hi := pidB_idx hp hd
    have hn := FM.get_lt hw hg
    have hM : M.close p d = (((M.put (idxF p d) none).tell n, 0), M.put (idxF p d) none) := by unfold FM.close; rw [hf]
    have hrf : (M.put (idxF p d) none).tell n = ⟨M.fd n, M.refs n - 1⟩ := by rw [tell_put, FM.refs_put hw _ hi, hg]; simp
    have hr2 := FRep.unlink hr hw hi hn hg (w' := (w.setCell ⟨f n, 4, none⟩ (.int .i64 (M.refs n - 1))).setCell ⟨b, idxF p d, none⟩ (.pointer none)) (Same.refl _)
    have hm2 : Mod F w ((w.setCell ⟨f n, 4, none⟩ (.int .i64 (M.refs n - 1))).setCell ⟨b, idxF p d, none⟩ (.pointer none)) := ((Mod.refl F w).setCell (fun _ => hFn n hn) _).setCell (fun _ => hFb) _
    have hwf2 := hw.put (idxF p d) (v := none) (fun n h => by cases h)
    have HN := Lib.hid (fun (w' : World) (hb' : Below w.heap.size ((w.setCell ⟨f n, 4, none⟩ (.int .i64 (M.refs n - 1))).setCell ⟨b, idxF p d, none⟩ (.pointer none)) w') =>
      (⟨hm2.trans (G := fun _ => False) (Mod.of_below (hb'.mono (by rw [size_of_setCellF, size_of_setCellF]; exact Nat.le_refl _))) (fun _ _ h => h.elim),
        Fds.set (M := M) hlt hFb hFn rfl hwf2 (hm2.trans (G := fun _ => False) (Mod.of_below (hb'.mono (by rw [size_of_setCellF, size_of_setCellF]; exact Nat.le_refl _))) (fun _ _ h => h.elim))
          (hr2.keep (hb'.block b (hlt b hFb)) (fun m hm => hb'.block _ (hlt _ (hFn m hm))))⟩ : Mod F w w' ∧ Fds w' b (M.put (idxF p d) none) (New F w w')))
    obtain ⟨c0, c1, c2, c3, c4, cf⟩ := hr.fcell hn
    have cf4 := cf 4
    obtain ⟨t0, tf⟩ := hr.cell (idxF p d) hi
    rw [hg] at t0
    have hne : f n ≠ b := hr.ne hn
    have hne' : ¬ b = f n := fun e => hne e.symm
    have hl : f n < w.heap.size := hlt _ (hFn n hn)
    have hbl := hlt b hFb
    have hrn := FM.refs_nonneg M n
    have hrl := FM.refs_le hw n
    rw [hf] at hfi
    rw [hM, hrf]
    obtain ⟨q, hq⟩ : ∃ q : Nat, p = (q : Int) + 1 := ⟨(p - 1).toNat, by simp [pidB] at hp; omega⟩
    obtain ⟨j, hj⟩ : ∃ j : Nat, d = (j : Int) := ⟨d.toNat, by simp [fdB] at hd; omega⟩
    have hq8 : q < 8 := by simp [pidB] at hp; omega
    have hj6 : j < 6 := by simp [fdB] at hd; omega
    subst hq
    subst hj
    have hij : idxF ((q : Int) + 1) j = q * 6 + j := by unfold idxF; omega
    rw [hij] at t0 tf HN ⊢
    simp only [ptrF] at t0
    clear hr hM hg hr2 hm2 hwf2 cf h0 hr1 hb0 hrf hi hp hd hij hf hFn hlt
    go_enter Try.func27, Try.ntmps27
    go_wp2_with fail
    refine hfi.mono ?_
    rintro r w' ⟨rfl, rfl⟩
    simp only [ptrF]
    clear hfi
    go_wp2
    exact bodyPost_ret (v := .tuple #[ftA ⟨M.fd n, M.refs n - 1⟩, .int .i64 0]) (by simp [results, Try.results27, go_sem, ftA]) rfl ⟨rfl, HN.out _ ((Below.refl _ _).alloc (by simp [World.setCell]) _)⟩

set_option maxRecDepth 100000 in
theorem fdup {w : World} {b : Nat} {M : FM} {F : Nat → Prop} (h : Fds w b M F) (p d : Int) :
    Calls Try.prog 26 #[.pointer (some ⟨b, 0, none⟩), .int .i64 p, .int .i64 d] w fun r w' =>
      r = .returned (.tuple #[.int .i64 (M.dup p d).1.1, .int .i64 (M.dup p d).1.2]) ∧ Mod F w w' ∧ Fds w' b (M.dup p d).2 (New F w w') := by
  have h0 := h
  obtain ⟨hw, hlt, f, hr, hFb, hFn⟩ := h
  have hfi := ffile hr p d
  have HN0 := Lib.hid (h0.new (Below.refl _ _))
  cases hf : M.file p d with
  | none =>
    have hM : M.dup p d = ((0, 9), M) := by unfold FM.dup; rw [hf]
    rw [hf] at hfi
    rw [hM]
    clear hr hM h0
    go_enter Try.func26, Try.ntmps26
    go_wp2_with fail
    refine hfi.mono ?_
    rintro r w' ⟨rfl, rfl⟩
    simp only [ptrF]
    clear hfi
    go_wp2
    go_ret2
    exact ⟨rfl, Mod.refl _ _, HN0.out⟩
  | some n =>
    obtain ⟨hp, hd, hg⟩ := FM.file_some hf
    have hn := FM.get_lt hw hg
    have hfr := ffree hr p hp
    rw [hf] at hfi
    cases hfn : M.freeN p with
    | none =>
      have hM : M.dup p d = ((0, 24), M) := by unfold FM.dup; rw [hf]; simp only [hfn]
      rw [hfn] at hfr
      rw [hM]
      clear hr hM h0 hg
      go_enter Try.func26, Try.ntmps26
      go_wp2_with fail
      refine hfi.mono ?_
      rintro r w' ⟨rfl, rfl⟩
      simp only [ptrF]
      clear hfi
      go_wp2_with fail
      refine hfr.mono ?_
      rintro r w' ⟨rfl, rfl⟩
      simp only [optI]
      clear hfr
      go_wp2
      go_ret2
      exact ⟨rfl, Mod.refl _ _, HN0.out⟩
    | some j =>
      obtain ⟨hj6, hgj⟩ := FM.freeN_some hfn
      have hM : M.dup p d = (((j : Int), 0), M.put (idxF p j) (some n)) := by unfold FM.dup; rw [hf]; simp only [hfn]
      have hi : idxF p j < 48 := pidB_idx hp (by simp [fdB]; omega)
      have hr2 := FRep.link hr hw hi hn hgj (w' := (w.setCell ⟨f n, 4, none⟩ (.int .i64 (M.refs n + 1))).setCell ⟨b, idxF p j, none⟩ (.pointer (some ⟨f n, 0, none⟩))) (Same.refl _)
      have hm2 : Mod F w ((w.setCell ⟨f n, 4, none⟩ (.int .i64 (M.refs n + 1))).setCell ⟨b, idxF p j, none⟩ (.pointer (some ⟨f n, 0, none⟩))) := ((Mod.refl F w).setCell (fun _ => hFn n hn) _).setCell (fun _ => hFb) _
      have hwf2 := hw.put (idxF p j) (v := some n) (fun m h => by injection h with h; omega)
      have HN := Lib.hid (Fds.set (M := M) (M' := M.put (idxF p j) (some n)) hlt hFb hFn rfl hwf2 hm2 hr2)
      have HM2 := Lib.hid hm2
      obtain ⟨c0, c1, c2, c3, c4, cf⟩ := hr.fcell hn
      have cf4 := cf 4
      obtain ⟨t0, tf⟩ := hr.cell (idxF p j) hi
      rw [hgj] at t0
      have hne : f n ≠ b := hr.ne hn
      have hne' : ¬ b = f n := fun e => hne e.symm
      have hrn := FM.refs_nonneg M n
      have hrl := FM.refs_le hw n
      rw [hfn] at hfr
      rw [hM]
      obtain ⟨q, hq⟩ : ∃ q : Nat, p = (q : Int) + 1 := ⟨(p - 1).toNat, by simp [pidB] at hp; omega⟩
      have hq8 : q < 8 := by simp [pidB] at hp; omega
      subst hq
      have hij : idxF ((q : Int) + 1) j = q * 6 + j := by unfold idxF; omega
      rw [hij] at t0 tf HN HM2 ⊢
      simp only [ptrF] at t0
      clear hr hM hg hgj hr2 hm2 hwf2 cf h0 hi hp hd hij hf hFn hlt hfn
      go_enter Try.func26, Try.ntmps26
      go_wp2_with fail
      refine hfi.mono ?_
      rintro r w' ⟨rfl, rfl⟩
      simp only [ptrF]
      clear hfi
      go_wp2_with fail
      refine hfr.mono ?_
      rintro r w' ⟨rfl, rfl⟩
      simp only [optI]
      clear hfr
      go_wp2
      go_ret2
      exact ⟨rfl, HM2.out, HN.out⟩

end Go.Proofs.Ytpclhecpfjkehaa
