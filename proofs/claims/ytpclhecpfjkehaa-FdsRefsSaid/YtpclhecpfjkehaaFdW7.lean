/- fds: Gone. -/
import Derived.Test.YtpclhecpfjkehaaFdW6
import Derived.Test.YtpclhecpfjkehaaApp
namespace Go.Proofs.Ytpclhecpfjkehaa
open Go.RowKit

def ftL (T : FT) : List Value := [.int .i64 T.x.kind, .int .i64 T.x.id, .int .i64 T.x.off, .bool T.x.app, .int .i64 T.refs]
def ftsCells (L : List FT) : List Value := L.flatMap ftL

theorem ftsCells_len (L : List FT) : (ftsCells L).length = L.length * 5 := by
  unfold ftsCells
  induction L with
  | nil => rfl
  | cons c L ih => rw [List.flatMap_cons, List.length_append, ih]; simp [ftL]; omega

theorem ftsCells_snoc (L : List FT) (T : FT) : ftsCells (L ++ [T]) = ftsCells L ++ ftL T := by unfold ftsCells; rw [List.flatMap_append]; simp

theorem goneTo_len (M : FM) (p : Int) : ∀ k, (M.goneTo p k).1.length ≤ k
  | 0 => by simp [FM.goneTo]
  | k + 1 => by
    have := goneTo_len M p k
    unfold FM.goneTo
    simp only
    split
    · simp; exact this
    · omega

structure GoneI (w : World) (F : Nat → Prop) (b : Nat) (M : FM) (p : Int) (k : Nat) (v : Value) (wr : World) : Prop where
  mod : Mod F w wr
  rep : ∃ F1, Fds wr b (M.goneTo p k).2 F1 ∧ (∀ j, F1 j → New F w wr j) ∧ ∀ j, v.ownBlock = some j → ¬ F1 j
  own : wr.ownsRow w.heap.size 56 5 v (M.goneTo p k).1.length (ftsCells (M.goneTo p k).1)

theorem src_new (w : World) (cs : Array Value) (t : TypeId) (size n : Nat) (h : cs.size = n * size) : Src (w.alloc (.cells cs t)) size (some ⟨w.heap.size, 0, none⟩) n cs.toList :=
  ⟨by simpa using h, fun _ => ⟨w.heap.size, 0, rfl, by simp, fun j u hu => by rw [World.cell?_alloc_new, Nat.zero_add]; simpa using hu⟩⟩

theorem GoneI.skip {w wr w1 w2 : World} {F F1 : Nat → Prop} {b k : Nat} {M N : FM} {p : Int} {v : Value} {L : List FT} (hm2 : Mod F w w1) (hc1 : Fds w1 b N (New F1 wr w1)) (hsub2 : ∀ j, New F1 wr w1 j → New F w w1 j) (hdis2 : ∀ j, v.ownBlock = some j → ¬ New F1 wr w1 j)
    (hown1 : w1.ownsRow w.heap.size 56 5 v L.length (ftsCells L)) (hb : Below w1.heap.size w1 w2) (hst : M.goneTo p (k + 1) = (L, N)) : GoneI w F b M p (k + 1) v w2 := by
  refine ⟨hm2.trans (G := fun _ => False) (Mod.of_below hb) (fun _ _ h => h.elim), ⟨_, by rw [hst]; exact hc1.below hb, fun j hj => ?_, hdis2⟩, by rw [hst]; exact ownBelow hown1 hb⟩
  exact (hsub2 j hj).elim .inl (fun h => .inr ⟨h.1, by have := hb.size; omega⟩)

theorem GoneI.more {w wr w1 w2 w3 : World} {F F1 : Nat → Prop} {b k : Nat} {M N : FM} {p : Int} {v v' : Value} {L : List FT} {T : FT} (hm2 : Mod F w w1) (hc1 : Fds w1 b N (New F1 wr w1)) (hsub2 : ∀ j, New F1 wr w1 j → New F w w1 j) (hdis2 : ∀ j, v.ownBlock = some j → ¬ New F1 wr w1 j)
    (hvge : ∀ j, v.ownBlock = some j → w.heap.size ≤ j) (hb : Below w1.heap.size w1 w2) (hg : w2.grownBy w3 v.ownBlock) (hat : v'.ownBlock = v.ownBlock ∨ v'.ownBlock = some w2.heap.size)
    (hown3 : w3.ownsRow w.heap.size 56 5 v' (L.length + 1) (ftsCells L ++ ftL T)) (hst : M.goneTo p (k + 1) = (L ++ [T], N)) : GoneI w F b M p (k + 1) v' w3 := by
  have h12 : Mod (fun j => v.ownBlock = some j) w1 w3 := (Mod.of_below hb).grown hg (fun k _ h => h)
  have hs := h12.size
  refine ⟨hm2.trans h12 (fun j hj h => absurd (hvge j h) (by omega)), ⟨_, by rw [hst]; exact hc1.keep h12 (fun j hj h => hdis2 j h hj), fun j hj => ?_, fun j hj h1 => ?_⟩, ?_⟩
  · exact (hsub2 j hj).elim .inl (fun h => .inr ⟨h.1, by omega⟩)
  · rcases hat with hat | hat
    · rw [hat] at hj; exact hdis2 j hj h1
    · rw [hat] at hj
      injection hj with hj
      have := hc1.lt j h1
      have := hb.size
      omega
  · rw [hst, List.length_append, List.length_singleton, ftsCells_snoc]; exact hown3

theorem fclose_nil (p d : Int) (w : World) :
    Calls Try.prog 27 #[.pointer none, .int .i64 p, .int .i64 d] w fun r w' => r = .returned (.tuple #[ftA FT.zero, .int .i64 9]) ∧ Below w.heap.size w w' := by
  have hfi := ffile_nil p d (w.alloc (.cells #[.int .i64 0, .int .i64 0, .int .i64 0, .bool false, .int .i64 0] 56))
  go_enter Try.func27, Try.ntmps27
  go_wp2_with fail
  refine hfi.mono ?_
  rintro r w' ⟨rfl, rfl⟩
  clear hfi
  go_wp2
  exact bodyPost_ret (v := .tuple #[.agg #[.int .i64 0, .int .i64 0, .int .i64 0, .bool false, .int .i64 0], .int .i64 9]) (by simp [results, Try.results27, go_sem]) rfl ⟨rfl, (Below.refl _ _).alloc (Nat.le_refl _) _⟩

set_option maxRecDepth 100000 in
set_option maxHeartbeats 800000 in
theorem fgone {w : World} {b : Nat} {M : FM} {F : Nat → Prop} (h : Fds w b M F) (p : Int) :
    Calls Try.prog 29 #[.pointer (some ⟨b, 0, none⟩), .int .i64 p] w fun r w' =>
      ∃ v, r = .returned v ∧ GoneI w F b M p 6 v w' := by
  obtain ⟨i0, hi0, hz0, hz1, hz2⟩ := info_parts fileInfo
  have hlt0 := h.lt
  have H0 : Hid (GoneI w F b M p 0 (.slice none 0 0) w) := ⟨Mod.refl _ _, ⟨F, h, fun j hj => .inl hj, fun j hj => by simp [Value.ownBlock] at hj⟩, World.ownsRow_nil _ _ _ _⟩
  clear h
  go_enter Try.func29, Try.ntmps29
  go_wp2
  go_loopw [5, 9] (fun v i wr => ∃ k : Nat, k ≤ 6 ∧ i = .int .i64 k ∧ GoneI w F b M p k v wr) (fun _ i _ => 6 - (intOf i).toNat)
  case atStart => exact ⟨0, by omega, rfl, H0.out⟩
  case round =>
    clear H0
    obtain ⟨k, hk, rfl, hG⟩ := hrel
    have HG := Lib.hid hG
    obtain ⟨hm, ⟨F1, hF1, hsub, hdis⟩, hown⟩ := hG
    by_cases hk6 : k < 6
    · have hc := fclose hF1 p k
      have hlen := goneTo_len M p k
      obtain ⟨R, hR⟩ : ∃ R, R = M.goneTo p k := ⟨_, rfl⟩
      rw [← hR] at hF1 hown hc hlen
      obtain ⟨C, hC⟩ : ∃ C, C = R.2.close p k := ⟨_, rfl⟩
      rw [← hC] at hc
      have hst : M.goneTo p (k + 1) = (if C.1.2 = 0 then R.1 ++ [C.1.1] else R.1, C.2) := by rw [hC, hR]; rfl
      have hcv : C.1.2 = 0 ∨ C.1.2 = 9 := by
        rw [hC]; unfold FM.close; split
        · exact .inr rfl
        · exact .inl rfl
      obtain ⟨T, e, N, hCe⟩ : ∃ T e N, C = ((T, e), N) := ⟨C.1.1, C.1.2, C.2, rfl⟩
      rw [hCe] at hc hst hcv
      simp only at hc hst hcv
      have HS := Lib.hid hst
      have hlt1 := hF1.lt
      have HSUB := Lib.hid hsub
      have HDIS := Lib.hid hdis
      unfold ftA at hc
      clear hst hCe hC hR hsub hdis HG hF1
      go_wp2_with fail
      refine hc.mono ?_
      rintro r w1 ⟨rfl, hm1, hc1⟩
      have hown1 := ownMod hown hm1 HDIS.out
      have hm2 : Mod F w w1 := hm.trans hm1 (fun i hi hn => (HSUB.out i hn).elim id (fun h => by omega))
      have hsub2 : ∀ j, New F1 wr w1 j → New F w w1 j := by
        rintro j (hj | ⟨h1, h2⟩)
        · rcases HSUB.out j hj with h3 | ⟨h3, h4⟩
          · exact .inl h3
          · exact .inr ⟨h3, by have := hm1.size; omega⟩
        · exact .inr ⟨by have := hm.size; omega, h2⟩
      have hdis2 : ∀ j, u5.ownBlock = some j → ¬ New F1 wr w1 j := by
        rintro j hj (h1 | ⟨h1, h2⟩)
        · exact HDIS.out j hj h1
        · have := (hown.lt j hj).2; omega
      have hbo : Below w1.heap.size w1 (w1.alloc (.cells #[.int .i64 T.x.kind, .int .i64 T.x.id, .int .i64 T.x.off, .bool T.x.app, .int .i64 T.refs] 56)) := (Below.refl _ _).alloc (Nat.le_refl _) _
      have hsz1 := hm2.size
      rcases hcv with rfl | rfl
      · have HMORE := Lib.hid (fun (w3 : World) (v' : Value) (hb : Below w1.heap.size w1 ((w1.alloc (.cells #[.int .i64 T.x.kind, .int .i64 T.x.id, .int .i64 T.x.off, .bool T.x.app, .int .i64 T.refs] 56)).alloc (.cells #[.int .i64 T.x.kind, .int .i64 T.x.id, .int .i64 T.x.off, .bool T.x.app, .int .i64 T.refs] 56))) hg hat hh =>
          GoneI.more (k := k) (v' := v') (w3 := w3) (p := p) (M := M) hm2 hc1 hsub2 hdis2 (fun j hj => (hown.lt j hj).1) hb hg hat hh (by rw [HS.out]; rfl))
        have hob : Below w1.heap.size w1 ((w1.alloc (.cells #[.int .i64 T.x.kind, .int .i64 T.x.id, .int .i64 T.x.off, .bool T.x.app, .int .i64 T.refs] 56)).alloc (.cells #[.int .i64 T.x.kind, .int .i64 T.x.id, .int .i64 T.x.off, .bool T.x.app, .int .i64 T.refs] 56)) := hbo.alloc hbo.size _
        have HOB := Lib.hid hob
        clear hc hm1 hc1 hown hm hsub2 hdis2 HSUB HDIS HS hbo hob
        go_wp2_with (at_builtin; refine wpList_append_src rfl _ _ 65 rfl w.heap.size 56 i0 _ 5 40 Try.underlying65 hi0 hz0 hz1 hz2 rfl (by decide) _ _ _ rfl ((hown1.alloc _).alloc _) _ _ _ (ftL T) rfl ?as1 ?as2 ?as3 ?as4 ?as5 ?_)
        case as1 => have hsn := src_new (w1.alloc (.cells #[.int .i64 T.x.kind, .int .i64 T.x.id, .int .i64 T.x.off, .bool T.x.app, .int .i64 T.refs] 56)) #[.int .i64 T.x.kind, .int .i64 T.x.id, .int .i64 T.x.off, .bool T.x.app, .int .i64 T.refs] 56 5 1 rfl; rw [World.size_alloc] at hsn; exact hsn
        case as2 => simp [ftL, Value.oneCell']
        case as3 => unfold maxLen; omega
        case as4 => omega
        case as5 => simp; omega
        intro A3 c3 w3 hown3 hg3 hat3
        have HN := Lib.hid (HMORE.out w3 _ HOB.out hg3 (by rw [World.size_alloc, World.size_alloc]; exact hat3) hown3)
        clear hown1 hown3 hg3 hat3 HMORE HOB
        go_wp2
        go_roundw
        case rel => exact ⟨k + 1, by omega, by go_num, HN.out⟩
        case measure => simp [intOf]; omega
      · have HN := Lib.hid (GoneI.skip (k := k) (p := p) (M := M) hm2 hc1 hsub2 hdis2 hown1 hbo (by rw [HS.out]; rfl))
        clear hc hm1 hc1 hown1 hown hm hsub2 hdis2 HSUB HDIS HS
        go_wp2
        go_roundw
        case rel => exact ⟨k + 1, by omega, by go_num, HN.out⟩
        case measure => simp [intOf]; omega
    · have hk6' : k = 6 := by omega
      subst hk6'
      clear hF1 hm hsub hdis hown
      go_wp2
      go_ret
      exact ⟨_, rfl, HG.out⟩

end Go.Proofs.Ytpclhecpfjkehaa
