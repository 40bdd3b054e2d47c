/- fds: files. -/
import Derived.Test.YtpclhecpfjkehaaFdW2
import Derived.Test.YtpclhecpfjkehaaInts
import Derived.Maps.AppendAt
import Derived.Test.YtpclhecpfjkehaaOwnB
namespace Go.Proofs.Ytpclhecpfjkehaa
open Go.RowKit

def fcell (f : Nat → Nat) (M : FM) (i : Nat) : Value := .pointer (ptrF f (M.get i))

theorem tabInfo : (Try.prog.info? 118).map (·.size) = some 48 := by kernel_rfl

theorem run_index_fds (w : World) (F : Nat → Value) (k : Nat) (hk : k < 8) :
    (Instr.index 118 (.agg (rowA 48 F)) (.int .i64 k)).run Try.prog w = .ok (.agg #[F (k * 6), F (k * 6 + 1), F (k * 6 + 2), F (k * 6 + 3), F (k * 6 + 4), F (k * 6 + 5)]) w := by
  have hi : (Try.prog.info? 117).map (·.size) = some 6 := by kernel_rfl
  cases hq : Try.prog.info? 117 with
  | none => simp [hq] at hi
  | some i =>
    have hs : i.size = 6 := by simpa [hq] using hi
    have hex : (rowA 48 F).extract (k * 6) (k * 6 + 6) = #[F (k * 6), F (k * 6 + 1), F (k * 6 + 2), F (k * 6 + 3), F (k * 6 + 4), F (k * 6 + 5)] := by
      rcases (by omega : k = 0 ∨ k = 1 ∨ k = 2 ∨ k = 3 ∨ k = 4 ∨ k = 5 ∨ k = 6 ∨ k = 7) with rfl | rfl | rfl | rfl | rfl | rfl | rfl | rfl <;> simp [rowA, List.range_succ]
    simp [Instr.index, asIntOf, run_underlying Try.underlying118, sizeOf, typeInfo, hq, hs, part, hk, hex]

theorem run_index_row (w : World) (p : Nat → Option Addr) (k : Nat) (hk : k < 6) :
    (Instr.index 117 (.agg #[.pointer (p 0), .pointer (p 1), .pointer (p 2), .pointer (p 3), .pointer (p 4), .pointer (p 5)]) (.int .i64 k)).run Try.prog w = .ok (.pointer (p k)) w :=
  run_index_one w 117 115 6 _ k (.pointer (p k)) _ Try.underlying117 Try.underlying115 rfl (by kernel_rfl) hk (by
    rcases (by omega : k = 0 ∨ k = 1 ∨ k = 2 ∨ k = 3 ∨ k = 4 ∨ k = 5) with rfl | rfl | rfl | rfl | rfl | rfl <;> rfl)

def filePtrs (f : Nat → Nat) (acc : List Nat) : List Value := acc.map fun n => .pointer (some ⟨f n, 0, none⟩)

theorem filePtrs_len (f : Nat → Nat) (acc : List Nat) : (filePtrs f acc).length = acc.length := by simp [filePtrs]

theorem filePtrs_snoc (f : Nat → Nat) (acc : List Nat) (n : Nat) : filePtrs f (acc ++ [n]) = filePtrs f acc ++ [.pointer (some ⟨f n, 0, none⟩)] := by simp [filePtrs]

theorem take_get {M : FM} (hw : M.WF) {i : Nat} (hi : i < 48) : M.t.take (i + 1) = M.t.take i ++ [M.get i] := by
  rw [List.take_add_one, FM.get_at hw hi]; rfl

theorem files_none {M : FM} (hw : M.WF) (i : Nat) : ∀ k, i + k ≤ 48 → (∀ j, j < k → M.get (i + j) = none) → filesOf (M.t.take (i + k)) = filesOf (M.t.take i)
  | 0, _, _ => rfl
  | k + 1, hk, hn => by
    rw [← Nat.add_assoc, take_get hw (by omega), filesOf_snoc, hn k (by omega), files_none hw i k (by omega) (fun j hj => hn j (by omega))]
    rfl

theorem files_len {M : FM} (hw : M.WF) (i : Nat) : (filesOf (M.t.take i)).length ≤ 48 := by
  have := filesOf_len (M.t.take i)
  rw [List.length_take, hw.len] at this
  omega

/-- The files that the first i descriptors name, as 'files' collects them. -/
def FilesI (w : World) (B : Nat) (M : FM) (f : Nat → Nat) (v : Value) (i : Nat) : Prop :=
  w.ownsRow B 115 1 v (filesOf (M.t.take i)).length (filePtrs f (filesOf (M.t.take i)))

theorem FilesI.skip {w w' : World} {B : Nat} {M : FM} {f : Nat → Nat} {v : Value} {i : Nat} (hw : M.WF) (hi : i < 48) (h : FilesI w B M f v i) (hb : Below w.heap.size w w') (h1 : M.get i = none ∨ ∃ n, M.get i = some n ∧ n ∈ filesOf (M.t.take i)) : FilesI w' B M f v (i + 1) := by
  have : filesOf (M.t.take (i + 1)) = filesOf (M.t.take i) := by
    rw [take_get hw hi, filesOf_snoc]
    rcases h1 with h1 | ⟨n, h1, h2⟩
    · rw [h1]; rfl
    · rw [h1]; unfold addF; simp [h2]
  unfold FilesI at h ⊢
  rw [this]
  exact ownBelow h hb

theorem FilesI.add {w' : World} {B : Nat} {M : FM} {f : Nat → Nat} {v' : Value} {i n : Nat} (hw : M.WF) (hi : i < 48) (h1 : M.get i = some n) (h2 : n ∉ filesOf (M.t.take i))
    (h : w'.ownsRow B 115 1 v' ((filesOf (M.t.take i)).length + 1) (filePtrs f (filesOf (M.t.take i)) ++ [.pointer (some ⟨f n, 0, none⟩)])) : FilesI w' B M f v' (i + 1) := by
  have : filesOf (M.t.take (i + 1)) = filesOf (M.t.take i) ++ [n] := by
    rw [take_get hw hi, filesOf_snoc, h1]
    unfold addF
    simp [h2]
  unfold FilesI
  rw [this, List.length_append, List.length_singleton, filePtrs_snoc]
  exact h

set_option maxRecDepth 100000 in
set_option maxHeartbeats 1600000 in
theorem ffiles {b : Nat} {M : FM} {f : Nat → Nat} {w : World} (h : FRep w b M f) (hw : M.WF) :
    Calls Try.prog 67 #[.pointer (some ⟨b, 0, none⟩)] w fun y w' =>
      ∃ v, y = .returned v ∧ w'.ownsRow w.heap.size 115 1 v M.files.length (filePtrs f M.files) ∧ Below w.heap.size w w' := by
  obtain ⟨i0, hi, hz0, hz1, hz2⟩ := info_parts fptrInfo
  have hcells : ∀ j, j < 48 → w.cell? ((⟨b, 0, none⟩ : Addr).add j) = some (fcell f M j) := fun j hj => by
    rw [add_mk, Nat.zero_add]; exact (h.cell j hj).1
  have HR := Lib.hid h
  have HW := Lib.hid hw
  have HCS := Lib.hid hcells
  have hfin : ∀ w' v, FilesI w' w.heap.size M f v 48 → w'.ownsRow w.heap.size 115 1 v M.files.length (filePtrs f M.files) := fun w' v h1 => by
    unfold FilesI at h1
    rw [List.take_of_length_le (by rw [hw.len]; omega)] at h1
    exact h1
  have HF := Lib.hid hfin
  clear h hw hcells hfin
  go_enter Try.func67, Try.ntmps67
  go_wp2_with (with_reducible refine wpList_load_fn rfl 118 _ rfl ⟨b, 0, none⟩ rfl 48 (fcell f M) _ Try.underlying118 rfl tabInfo HCS.out ?_)
  go_loopw [3, 12] (fun v i wr => ∃ k : Nat, k ≤ 8 ∧ i = .int .i64 k ∧ Below w.heap.size w wr ∧ FilesI wr w.heap.size M f v (k * 6)) (fun _ i _ => 8 - (intOf i).toNat)
  case atStart => exact ⟨0, by omega, rfl, Below.refl _ _, by unfold FilesI; rw [Nat.zero_mul, List.take_zero]; exact World.ownsRow_nil _ _ _ _⟩
  case round =>
    obtain ⟨k, hk, rfl, hb, hI⟩ := hrel
    have HI := Lib.hid hI
    clear hI
    by_cases hlt : k < 8
    · have hkb : decide ((k : Int) < 8) = true := by simp; omega
      obtain ⟨p, hp⟩ : ∃ p : Nat → Option Addr, p = fun j => ptrF f (M.get (k * 6 + j)) := ⟨_, rfl⟩
      have hidx : ∀ w, (Instr.index 118 (.agg (rowA 48 (fcell f M))) (.int .i64 k)).run Try.prog w = .ok (.agg #[.pointer (p 0), .pointer (p 1), .pointer (p 2), .pointer (p 3), .pointer (p 4), .pointer (p 5)]) w := fun w => by
        rw [run_index_fds w (fcell f M) k hlt, hp]; rfl
      obtain ⟨al, hal⟩ : ∃ al, al = (List.range 6).all fun i => (p i).isNone := ⟨_, rfl⟩
      have hreq := row_eq p
      rw [← hal] at hreq
      have HP := Lib.hid hp
      have HAL := Lib.hid hal
      clear hp hal
      cases al with
      | true =>
        have hnx : FilesI (wr.alloc (.cells #[.pointer (p 0), .pointer (p 1), .pointer (p 2), .pointer (p 3), .pointer (p 4), .pointer (p 5)] 117)) w.heap.size M f u3 ((k + 1) * 6) := by
          have h1 : filesOf (M.t.take (k * 6 + 6)) = filesOf (M.t.take (k * 6)) := files_none HW.out (k * 6) 6 (by omega) (fun j hj => by
            have h2 := List.all_eq_true.1 HAL.out.symm j (List.mem_range.2 hj)
            rw [HP.out] at h2
            simp only at h2
            cases hg : M.get (k * 6 + j) with
            | none => rfl
            | some n => rw [hg] at h2; cases h2)
          unfold FilesI
          rw [show (k + 1) * 6 = k * 6 + 6 by omega, h1]
          exact World.ownsRow.alloc HI.out _
        have HNX := Lib.hid hnx
        clear hnx
        go_wp2
        go_roundw
        case rel => exact ⟨k + 1, by omega, by go_num, hb.alloc hb.size _, HNX.out⟩
        case measure => simp [intOf]; omega
      | false =>
        have HI2 := Lib.hid (World.ownsRow.alloc HI.out (.cells #[.pointer (p 0), .pointer (p 1), .pointer (p 2), .pointer (p 3), .pointer (p 4), .pointer (p 5)] 117))
        have HB2 := Lib.hid (hb.alloc hb.size (.cells #[.pointer (p 0), .pointer (p 1), .pointer (p 2), .pointer (p 3), .pointer (p 4), .pointer (p 5)] 117))
        clear hb
        go_wp2
        clear hidx hreq
        obtain ⟨wo, hwo⟩ : ∃ wo : World, wo = wr.alloc (.cells #[.pointer (p 0), .pointer (p 1), .pointer (p 2), .pointer (p 3), .pointer (p 4), .pointer (p 5)] 117) := ⟨_, rfl⟩
        rw [← hwo] at HI2 HB2 ⊢
        clear hwo HI
        go_loopw [3, 19] (fun v i w2 => ∃ j : Nat, j ≤ 6 ∧ i = .int .i64 j ∧ Below w.heap.size w w2 ∧ FilesI w2 w.heap.size M f v (k * 6 + j)) (fun _ i _ => 6 - (intOf i).toNat)
        case atStart => exact ⟨0, by omega, rfl, HB2.out, HI2.out⟩
        case round =>
          clear HI2 HB2
          obtain ⟨j, hj, rfl, hb, hI⟩ := hrel
          have HI := Lib.hid hI
          clear hI
          by_cases hj6 : j < 6
          · have hidx := fun w => run_index_row w p j hj6
            have hi48 : k * 6 + j < 48 := by omega
            have hpj : p j = ptrF f (M.get (k * 6 + j)) := by rw [HP.out]
            cases hg : M.get (k * 6 + j) with
            | none =>
              rw [hg] at hpj
              have hpn : p j = none := hpj
              rw [hpn] at hidx
              have HN := Lib.hid (HI.out.skip HW.out hi48 (Below.refl _ _) (.inl hg))
              clear hpj hpn hg
              go_wp2
              go_roundw
              case rel => exact ⟨j + 1, by omega, by go_num, hb, HN.out⟩
              case measure => simp [intOf]; omega
            | some n =>
              rw [hg] at hpj
              have hpn : p j = some ⟨f n, 0, none⟩ := hpj
              rw [hpn] at hidx
              obtain ⟨acc, hacc⟩ : ∃ acc, acc = filesOf (M.t.take (k * 6 + j)) := ⟨_, rfl⟩
              have hown := HI.out
              unfold FilesI at hown
              rw [← hacc] at hown
              have hal48 := files_len HW.out (k * 6 + j)
              rw [← hacc] at hal48
              obtain ⟨A, c, hv, hcl⟩ := ownCells hown
              have hlast : ∀ m, m ∈ acc → m < M.x.length := fun m hm => by
                rw [hacc] at hm
                have := mem_filesOf.1 hm
                exact HW.out.lt m (List.mem_of_mem_take this)
              have hn : n < M.x.length := FM.get_lt HW.out hg
              have hrep2 : FRep wr b M f := HR.out.keep (hb.block b (by obtain ⟨c, h1, _⟩ := HR.out.tab; exact lt_of_heap h1)) (fun m hm => hb.block _ (lt_of_heap (HR.out.file m hm)))
              have hcon := fcontains A acc.length c (some ⟨f n, 0, none⟩) (fun i => ptrF f acc[i]?) (fun i => decide (some n = acc[i]?)) wr (by omega) (fun i hi => by
                obtain ⟨g, h1, _, h2, h3⟩ := hcl (by omega)
                refine ⟨g, 0, h1, ?_⟩
                rw [Nat.zero_add]
                refine h3 i _ ?_
                unfold filePtrs
                rw [List.getElem?_map, List.getElem?_eq_getElem hi]
                rfl) (fun i hi => by
                have := hrep2.eql (some n) acc[i]? (fun m hm => by injection hm with hm; subst hm; exact hn) (fun m hm => hlast m (List.mem_of_getElem? hm))
                exact this)
              have hmem : ((List.range acc.length).any fun i => decide (some n = acc[i]?)) = decide (n ∈ acc) := by
                rw [Bool.eq_iff_iff, List.any_eq_true, decide_eq_true_iff]
                constructor
                · rintro ⟨i, _, h2⟩
                  exact List.mem_of_getElem? (of_decide_eq_true h2).symm
                · intro h1
                  obtain ⟨i, hi⟩ := List.getElem?_of_mem h1
                  exact ⟨i, List.mem_range.2 (List.getElem?_eq_some_iff.1 hi).1, by simp [hi]⟩
              rw [hmem] at hcon
              obtain ⟨inn, hinn⟩ : ∃ inn, inn = decide (n ∈ acc) := ⟨_, rfl⟩
              rw [← hinn] at hcon
              have HIN := Lib.hid hinn
              have HAC := Lib.hid hacc
              have HG := Lib.hid hg
              clear hpj hpn hg hcl hlast hmem hinn hacc hrep2 hn
              subst hv
              cases inn with
              | true =>
                have HN := Lib.hid (HI.out.skip HW.out hi48 (Below.refl _ _) (.inr ⟨n, HG.out, by rw [← HAC.out]; exact of_decide_eq_true HIN.out.symm⟩))
                clear hown
                go_wp2_with fail
                refine hcon.mono ?_
                rintro y w3 ⟨rfl, rfl⟩
                clear hcon
                go_wp2
                go_roundw
                case rel => exact ⟨j + 1, by omega, by go_num, hb, HN.out⟩
                case measure => simp [intOf]; omega
              | false =>
                have HADD := Lib.hid (fun v' w' hh => FilesI.add (w' := w') (B := w.heap.size) (f := f) (v' := v') HW.out hi48 HG.out (by rw [← HAC.out]; exact of_decide_eq_false HIN.out.symm) hh)
                go_wp2_with fail
                refine hcon.mono ?_
                rintro y w3 ⟨rfl, rfl⟩
                clear hcon
                go_wp2_with (at_builtin; refine wpList_append_own _ rfl _ _ 111 rfl w.heap.size 115 i0 (.pointer none) 1 8 Try.underlying111 hi hz0 hz1 hz2 rfl (by decide) _ _ _ rfl (hown.alloc _) ⟨wr.heap.size, 0, none⟩ 1 1 [.pointer (some ⟨f n, 0, none⟩)] rfl rfl ?aa1 ?aa2 ?aa3 ?aa4 ?aa5 ?_)
                case aa1 => exact (cell_one_new _ _ _)
                case aa2 => simp [Value.oneCell']
                case aa3 => unfold maxLen; omega
                case aa4 => omega
                case aa5 => have := hb.size; simp; omega
                intro v' w3 hown3 hg3 _
                have hb3 : Below w.heap.size w w3 := (hb.alloc hb.size _).grown hg3 (by have := hb.size; simp; omega) (fun q hq => (hown.lt q hq).1)
                have HN := Lib.hid (HADD.out v' w3 (by rw [← HAC.out]; exact hown3))
                clear hown3 hg3 hown HADD
                go_wp2
                go_roundw
                case rel => exact ⟨j + 1, by omega, by go_num, hb3, HN.out⟩
                case measure => simp [intOf]; omega
          · have hj6' : j = 6 := by omega
            subst hj6'
            have HN : Hid (FilesI wr w.heap.size M f u3 ((k + 1) * 6)) := by
              show FilesI _ _ _ _ _ _
              rw [show (k + 1) * 6 = k * 6 + 6 by omega]; exact HI.out
            go_wp2
            go_roundw
            case rel => exact ⟨k + 1, by omega, by go_num, hb, HN.out⟩
            case measure => simp [intOf]; omega
    · have hk8 : k = 8 := by omega
      subst hk8
      have HX := Lib.hid (HF.out _ _ HI.out)
      go_wp2
      go_ret
      exact ⟨_, rfl, HX.out, hb⟩

end Go.Proofs.Ytpclhecpfjkehaa
