/- fds: Open. -/
import Derived.Test.YtpclhecpfjkehaaFdW4
namespace Go.Proofs.Ytpclhecpfjkehaa
open Go.RowKit

/-- The file number of a new file goes to block g. -/
def fNew (f : Nat → Nat) (n g : Nat) : Nat → Nat := fun m => if m = n then g else f m

theorem refs_open (M : FM) (hw : M.WF) {i : Nat} (hi : i < 48) (hf : M.get i = none) (X : FD) :
    (⟨M.t.set i (some M.x.length), M.x ++ [X]⟩ : FM).refs M.x.length = 1 ∧ ∀ m, m < M.x.length → (⟨M.t.set i (some M.x.length), M.x ++ [X]⟩ : FM).refs m = M.refs m := by
  have h0 : M.refs M.x.length = 0 := by
    unfold FM.refs
    have : M.t.count (some M.x.length) = 0 := List.count_eq_zero.2 (fun h => by have := hw.lt _ h; omega)
    rw [this]; rfl
  have h1 := FM.refs_put hw (some M.x.length) hi
  constructor
  · have h2 := h1 M.x.length
    rw [hf, h0] at h2
    have h3 : (M.put i (some M.x.length)).refs M.x.length = 1 := by simpa using h2
    exact h3
  · intro m hm
    have h2 := h1 m
    rw [hf] at h2
    have h3 : ¬ M.x.length = m := by omega
    simp [h3] at h2
    exact h2

theorem FRep.open {w w1 w' : World} {b : Nat} {M : FM} {f : Nat → Nat} (h : FRep w b M f) (hw : M.WF) (hlt : ∀ n, n < M.x.length → f n < w.heap.size) {i : Nat} (hi : i < 48) (hf : M.get i = none) (X : FD) (r : Int)
    (hb1 : Below (w.alloc (.cells (ftCells ⟨X, r⟩) 56)).heap.size (w.alloc (.cells (ftCells ⟨X, r⟩) 56)) w1)
    (hs : Same w' ((w1.setCell ⟨w.heap.size, 4, none⟩ (.int .i64 1)).setCell ⟨b, i, none⟩ (.pointer (some ⟨w.heap.size, 0, none⟩)))) :
    FRep w' b ⟨M.t.set i (some M.x.length), M.x ++ [X]⟩ (fNew f M.x.length w.heap.size) := by
  obtain ⟨r1, r2⟩ := refs_open M hw hi hf X
  obtain ⟨⟨c, h1, h2, h3⟩, h4, h5⟩ := h
  have hbl : b < w.heap.size := lt_of_heap h1
  have hg : ∀ m, m < M.x.length → fNew f M.x.length w.heap.size m = f m := fun m hm => by unfold fNew; rw [if_neg (by omega)]
  have hgn : fNew f M.x.length w.heap.size M.x.length = w.heap.size := by unfold fNew; rw [if_pos rfl]
  have hold : ∀ k, k < w.heap.size → w1.heap[k]? = w.heap[k]? := fun k hk => by
    rw [hb1.block k (by simp; omega), heap_alloc, if_neg (by omega)]
  have hnew : w1.heap[w.heap.size]? = some (.cells (ftCells ⟨X, r⟩) 56 (0, 0)) := by
    rw [hb1.block _ (by simp), heap_alloc, if_pos rfl]
  have hget : ∀ j, (⟨M.t.set i (some M.x.length), M.x ++ [X]⟩ : FM).get j = if i = j then some M.x.length else M.get j := fun j => FM.get_put hw (some M.x.length) hi
  refine ⟨⟨c.setIfInBounds i (.pointer (some ⟨w.heap.size, 0, none⟩)), ?_, by simpa using h2, fun j hj => ?_⟩, fun m hm => ?_, fun a e ha he hae => ?_⟩
  · rw [hs.1]
    exact heap_setCell_eq (by rw [heap_setCell_ne _ _ _ _ (by show b ≠ w.heap.size; omega), hold b hbl]; exact h1)
  · rw [hget]
    by_cases hij : i = j
    · subst hij
      rw [if_pos rfl, Array.getElem?_setIfInBounds_self_of_lt (by omega)]
      simp only [ptrF]
      rw [hgn]
    · rw [if_neg hij, Array.getElem?_setIfInBounds_ne hij, h3 j hj]
      cases hgj : M.get j with
      | none => rfl
      | some m => simp only [ptrF]; rw [hg m (FM.get_lt hw hgj)]
  · have hm' : m < M.x.length + 1 := by simpa using hm
    by_cases hmn : m = M.x.length
    · subst hmn
      have ht : (⟨M.t.set i (some M.x.length), M.x ++ [X]⟩ : FM).tell M.x.length = ⟨X, 1⟩ := by
        unfold FM.tell; rw [r1]; simp [FM.fd]
      rw [hgn, hs.1, heap_setCell_ne _ _ _ _ (by show w.heap.size ≠ b; omega), heap_setCell_eq hnew, ht]
      rfl
    · have hml : m < M.x.length := by omega
      have ht : (⟨M.t.set i (some M.x.length), M.x ++ [X]⟩ : FM).tell m = M.tell m := by
        unfold FM.tell FM.fd; rw [r2 m hml]; simp only [List.getElem?_append_left hml]
      have hmb : f m ≠ b := by
        intro e
        have h6 := h4 m hml
        rw [e, h1] at h6
        injection h6 with h6
        injection h6 with _ h6
        exact absurd h6 (by decide)
      have hfl := hlt m hml
      rw [hg m hml, hs.1, heap_setCell_ne _ _ _ _ (by show f m ≠ b; exact hmb), heap_setCell_ne _ _ _ _ (by show f m ≠ w.heap.size; omega), hold _ hfl, h4 m hml, ht]
  · have ha' : a < M.x.length + 1 := by simpa using ha
    have he' : e < M.x.length + 1 := by simpa using he
    unfold fNew at hae
    by_cases h6 : a = M.x.length <;> by_cases h7 : e = M.x.length
    · omega
    · rw [if_pos h6, if_neg h7] at hae
      have := hlt e (by omega); omega
    · rw [if_neg h6, if_pos h7] at hae
      have := hlt a (by omega); omega
    · rw [if_neg h6, if_neg h7] at hae
      exact h5 a e (by omega) (by omega) hae

theorem fopen_bad (b : Nat) (p : Int) (X : FD) (r : Int) (w : World) (hp : pidB p = false) :
    Calls Try.prog 25 #[.pointer (some ⟨b, 0, none⟩), .int .i64 p, ftA ⟨X, r⟩] w fun y w' =>
      y = .returned (.tuple #[.int .i64 0, .int .i64 9]) ∧ Below w.heap.size w w' := by
  have ha := fat_out b p 0 (by rw [hp]; rfl) (w.alloc (.cells (ftCells ⟨X, r⟩) 56))
  unfold ftCells at ha
  unfold ftA
  go_enter Try.func25, Try.ntmps25
  go_wp2_with fail
  refine ha.mono ?_
  rintro y w' ⟨rfl, rfl⟩
  clear ha
  go_wp2
  go_ret2
  exact ⟨rfl, (Below.refl _ _).alloc (Nat.le_refl _) _⟩

set_option maxRecDepth 100000 in
set_option maxHeartbeats 800000 in
theorem fopen {w : World} {b : Nat} {M : FM} {F : Nat → Prop} (h : Fds w b M F) (p : Int) (X : FD) (r : Int) :
    Calls Try.prog 25 #[.pointer (some ⟨b, 0, none⟩), .int .i64 p, ftA ⟨X, r⟩] w fun y w' =>
      y = .returned (.tuple #[.int .i64 (M.open p X).1.1, .int .i64 (M.open p X).1.2]) ∧ Mod F w w' ∧ Fds w' b (M.open p X).2 (New F w w') := by
  by_cases hp : pidB p = true
  · have h0 := h
    obtain ⟨hw, hlt, f, hr, hFb, hFn⟩ := h
    have hb0 : Below w.heap.size w (w.alloc (.cells (ftCells ⟨X, r⟩) 56)) := (Below.refl _ _).alloc (Nat.le_refl _) _
    have hr1 : FRep (w.alloc (.cells (ftCells ⟨X, r⟩) 56)) b M f := hr.keep (hb0.block b (hlt b hFb)) (fun n hn => hb0.block _ (hlt _ (hFn n hn)))
    have ha := fat_in b p 0 hp rfl (w.alloc (.cells (ftCells ⟨X, r⟩) 56))
    have hfr := ffree hr1 p hp
    have hfs := ffiles hr1 hw
    cases hfn : M.freeN p with
    | none =>
      have hM : M.open p X = ((0, 24), M) := by unfold FM.open; rw [if_pos hp]; simp only [hfn]
      have HN := Lib.hid (h0.new hb0)
      have HB := Lib.hid hb0
      rw [hfn] at hfr
      rw [hM]
      unfold ftCells at ha hfr HN HB
      clear hr hM h0 hb0 hr1 hfs
      unfold ftA
      go_enter Try.func25, Try.ntmps25
      go_wp2_with fail
      refine ha.mono ?_
      rintro y w' ⟨rfl, rfl⟩
      clear ha
      go_wp2_with fail
      refine hfr.mono ?_
      rintro y w' ⟨rfl, rfl⟩
      simp only [optI]
      clear hfr
      go_wp2
      go_ret2
      exact ⟨rfl, Mod.of_below HB.out, HN.out⟩
    | some j =>
      obtain ⟨hj6, hgj⟩ := FM.freeN_some hfn
      have hi : idxF p j < 48 := pidB_idx hp (by simp [fdB]; omega)
      obtain ⟨q, hq⟩ : ∃ q : Nat, p = (q : Int) + 1 := ⟨(p - 1).toNat, by simp [pidB] at hp; omega⟩
      have hq8 : q < 8 := by simp [pidB] at hp; omega
      have hij : idxF p j = q * 6 + j := by rw [hq]; unfold idxF; omega
      rw [hfn] at hfr
      by_cases hfull : 32 ≤ M.files.length
      · have hM : M.open p X = ((0, 24), M) := by unfold FM.open; rw [if_pos hp]; simp only [hfn]; rw [if_pos hfull]
        have HN := Lib.hid (fun w' (hb : Below w.heap.size w w') => h0.new hb)
        have HB := Lib.hid hb0
        rw [hM]
        have hsz : (w.alloc (.cells (ftCells ⟨X, r⟩) 56)).heap.size = w.heap.size + 1 := by simp
        unfold ftCells at ha hfr HB hfs
        clear hr hM h0 hb0 hr1 hsz hij hq
        unfold ftA
        go_enter Try.func25, Try.ntmps25
        go_wp2_with fail
        refine ha.mono ?_
        rintro y w' ⟨rfl, rfl⟩
        clear ha
        go_wp2_with fail
        refine hfr.mono ?_
        rintro y w' ⟨rfl, rfl⟩
        simp only [optI]
        clear hfr
        go_wp2_with fail
        refine hfs.mono ?_
        rintro y w1 ⟨v, rfl, hown, hb1⟩
        have hb2 := HB.out.trans (hb1.mono HB.out.size)
        have HN2 := Lib.hid (HN.out _ hb2)
        obtain ⟨A, c, rfl⟩ := ownForm hown
        clear hfs hown hb1
        go_wp2
        go_ret2
        exact ⟨rfl, Mod.of_below hb2, HN2.out⟩
      · have hM : M.open p X = (((j : Int), 0), ⟨M.t.set (idxF p j) (some M.x.length), M.x ++ [X]⟩) := by unfold FM.open; rw [if_pos hp]; simp only [hfn]; rw [if_neg hfull]
        have hlf := filesOf_len M.t
        rw [hw.len] at hlf
        have hfl : M.files.length ≤ 48 := hlf
        have HO := Lib.hid (fun (w1 w' : World) hb1 hs => FRep.open (w1 := w1) (w' := w') hr hw (fun n hn => hlt _ (hFn n hn)) hi hgj X r hb1 hs)
        have hwf : (⟨M.t.set (idxF p j) (some M.x.length), M.x ++ [X]⟩ : FM).WF := by
          refine ⟨by simp [hw.len], fun n hn => ?_⟩
          rcases List.mem_or_eq_of_mem_set hn with h | h
          · have := hw.lt n h; simp; omega
          · injection h with h; simp; omega
        have HF := Lib.hid (fun (w1 : World) (hb1 : Below (w.alloc (.cells (ftCells ⟨X, r⟩) 56)).heap.size (w.alloc (.cells (ftCells ⟨X, r⟩) 56)) w1) =>
          (by
            have hb2 := hb0.trans (hb1.mono hb0.size)
            have hm : Mod F w ((w1.setCell ⟨w.heap.size, 4, none⟩ (.int .i64 1)).setCell ⟨b, q * 6 + j, none⟩ (.pointer (some ⟨w.heap.size, 0, none⟩))) :=
              ((Mod.of_below (F := F) hb2).setCell (p := ⟨w.heap.size, 4, none⟩) (fun hh => absurd hh (by show ¬ w.heap.size < w.heap.size; omega)) _).setCell (p := ⟨b, q * 6 + j, none⟩) (fun _ => hFb) _
            have hsz : w.heap.size < w1.heap.size := by have := hb1.size; rw [World.size_alloc] at this; omega
            refine ⟨hm, hwf, fun k hk => NewF.lt hlt hm.size k hk, fNew f M.x.length w.heap.size, HO.out w1 _ hb1 (by rw [hij]; exact Same.refl _), .inl hFb, fun n hn => ?_⟩
            unfold fNew
            split
            · exact .inr ⟨Nat.le_refl _, by rw [size_of_setCellF, size_of_setCellF]; exact hsz⟩
            · have hn' : n < M.x.length + 1 := by simpa using hn
              exact .inl (hFn n (by omega)) : Mod F w ((w1.setCell ⟨w.heap.size, 4, none⟩ (.int .i64 1)).setCell ⟨b, q * 6 + j, none⟩ (.pointer (some ⟨w.heap.size, 0, none⟩))) ∧ Fds ((w1.setCell ⟨w.heap.size, 4, none⟩ (.int .i64 1)).setCell ⟨b, q * 6 + j, none⟩ (.pointer (some ⟨w.heap.size, 0, none⟩))) b ⟨M.t.set (idxF p j) (some M.x.length), M.x ++ [X]⟩ (New F w ((w1.setCell ⟨w.heap.size, 4, none⟩ (.int .i64 1)).setCell ⟨b, q * 6 + j, none⟩ (.pointer (some ⟨w.heap.size, 0, none⟩))))))
        obtain ⟨t0, tf⟩ := hr.cell (idxF p j) hi
        rw [hgj, hij] at t0
        rw [hij] at tf
        simp only [ptrF] at t0
        have hbl := hlt b hFb
        rw [hM]
        have hc : ∀ w1, Below (w.alloc (.cells (ftCells ⟨X, r⟩) 56)).heap.size (w.alloc (.cells (ftCells ⟨X, r⟩) 56)) w1 → w1.cell? ⟨w.heap.size, 4, none⟩ = some (.int .i64 r) ∧ w1.frozen? ⟨w.heap.size, 4, none⟩ = false ∧ w1.cell? ⟨b, q * 6 + j, none⟩ = some (.pointer none) ∧ w1.frozen? ⟨b, q * 6 + j, none⟩ = false := by
          intro w1 hb1
          have hb2 := hb0.trans (hb1.mono hb0.size)
          have hnew : w1.heap[w.heap.size]? = some (.cells (ftCells ⟨X, r⟩) 56 (0, 0)) := by
            rw [hb1.block _ (by simp), heap_alloc, if_pos rfl]
          refine ⟨by rw [cell_of_heap hnew]; rfl, frozen_of_heap hnew _, by rw [hb2.cell hbl]; exact t0, by rw [hb2.frozen hbl]; exact tf⟩
        have HC := Lib.hid hc
        subst hq
        unfold ftCells at ha hfr hfs HC HF
        clear hr hM h0 hb0 hr1 HO hwf hij hi hgj hlf hc t0 tf hfn hFn hp
        unfold ftA
        go_enter Try.func25, Try.ntmps25
        go_wp2_with fail
        refine ha.mono ?_
        rintro y w' ⟨rfl, rfl⟩
        clear ha
        go_wp2_with fail
        refine hfr.mono ?_
        rintro y w' ⟨rfl, rfl⟩
        simp only [optI]
        clear hfr
        go_wp2_with fail
        refine hfs.mono ?_
        rintro y w1 ⟨v, rfl, hown, hb1⟩
        obtain ⟨k0, k1, k2, k3⟩ := HC.out w1 hb1
        have HE := Lib.hid (HF.out w1 hb1)
        obtain ⟨A, c, rfl⟩ := ownForm hown
        have hne : ¬ b = w.heap.size := by omega
        have hne' : ¬ w.heap.size = b := by omega
        clear hfs hown hb1 HC HF hlt
        go_wp2
        go_ret2
        exact ⟨rfl, HE.out.1, HE.out.2⟩
  · have hp' : pidB p = false := by simpa using hp
    have hM : M.open p X = ((0, 9), M) := by unfold FM.open; rw [if_neg hp]
    rw [hM]
    refine (fopen_bad b p X r w hp').mono ?_
    rintro y w' ⟨rfl, hb⟩
    exact ⟨rfl, Mod.of_below hb, h.new hb⟩

end Go.Proofs.Ytpclhecpfjkehaa
