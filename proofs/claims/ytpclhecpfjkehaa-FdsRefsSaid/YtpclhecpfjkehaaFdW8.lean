/- fds: Encode. -/
import Derived.Test.YtpclhecpfjkehaaFdW7
import Derived.Test.YtpclhecpfjkehaaApp
import Derived.StillTailTactics
import Derived.Deep.RegionLaw
import Derived.BigRegion
import Derived.Deep.CutRange
namespace Go.Proofs.Ytpclhecpfjkehaa
open Go.RowKit

def bitI (b : Bool) : Int := if b then 1 else 0
def wordsF (X : FD) : List Int := [X.kind, X.id, X.off, bitI X.app]
def posF (fs : List Nat) : Option Nat → Int
  | none => 0
  | some n => (fs.idxOf n : Nat) + 1

def headF (M : FM) (k : Nat) : List Int := ((M.files.length : Nat) : Int) :: (M.files.take k).flatMap fun n => wordsF (M.fd n)
def FM.encode (M : FM) : List Int := headF M M.files.length ++ M.t.map (posF M.files)

def rowU (l : List Int) : List Value := l.map (Value.int .u64)
theorem rowU_len (l : List Int) : (rowU l).length = l.length := by simp [rowU]
theorem rowU_append (l l' : List Int) : rowU (l ++ l') = rowU l ++ rowU l' := by simp [rowU]

/-- A file whose numbers are words. -/
def FD.okW (X : FD) : Prop := (0 ≤ X.kind ∧ X.kind ≤ 9223372036854775807) ∧ (0 ≤ X.id ∧ X.id ≤ 9223372036854775807) ∧ (0 ≤ X.off ∧ X.off ≤ 9223372036854775807)

theorem headF_len (M : FM) {k : Nat} (hk : k ≤ M.files.length) : (headF M k).length = 1 + 4 * k := by
  unfold headF
  rw [List.length_cons]
  have : ∀ l : List Nat, (l.flatMap fun n => wordsF (M.fd n)).length = 4 * l.length := by
    intro l
    induction l with
    | nil => rfl
    | cons a l ih => rw [List.flatMap_cons, List.length_append, ih]; simp [wordsF]; omega
  rw [this, List.length_take]
  omega

theorem headF_succ (M : FM) {k n : Nat} (hk : M.files[k]? = some n) : headF M (k + 1) = headF M k ++ wordsF (M.fd n) := by
  unfold headF
  rw [List.take_add_one, hk, List.flatMap_append, List.cons_append]
  simp

theorem encode_len {M : FM} (hw : M.WF) : M.encode.length = 1 + 4 * M.files.length + 48 := by
  unfold FM.encode
  rw [List.length_append, headF_len M (Nat.le_refl _), List.length_map, hw.len]

theorem files_le {M : FM} (hw : M.WF) : M.files.length ≤ 48 := by
  have := filesOf_len M.t
  rw [hw.len] at this
  exact this

theorem posF_first (fs : List Nat) (o : Option Nat) (ho : ∀ n, o = some n → n ∈ fs) (i : Int) (h : FirstAt (fun j => decide (o = fs[j]?)) fs.length i) : i = posF fs o - 1 := by
  cases o with
  | none =>
    rcases h with ⟨rfl, _⟩ | ⟨k, hk, rfl, h1, _⟩
    · rfl
    · have := of_decide_eq_true h1
      rw [List.getElem?_eq_getElem hk] at this
      cases this
  | some n =>
    have hm := ho n rfl
    have hlt := List.idxOf_lt_length_of_mem hm
    have hat : fs[fs.idxOf n]? = some n := by
      rw [List.getElem?_eq_getElem hlt]
      simp
    rcases h with ⟨rfl, h1⟩ | ⟨k, hk, rfl, h1, h2⟩
    · have := h1 _ hlt
      simp only [hat] at this
      simp at this
    · have h3 := of_decide_eq_true h1
      have : k = fs.idxOf n := by
        rcases Nat.lt_trichotomy k (fs.idxOf n) with h4 | h4 | h4
        · exfalso
          have h5 : fs[k]? = some n := h3.symm
          have h6 : fs[k] = n := by rw [List.getElem?_eq_getElem hk] at h5; injection h5
          have h7 := List.not_of_lt_findIdx (p := fun x => x == n) (xs := fs) h4
          simp [h6] at h7
        · exact h4
        · have := h2 _ h4
          simp only [hat] at this
          simp at this
      subst this
      simp [posF]

theorem posF_bd {M : FM} (hw : M.WF) (o : Option Nat) (ho : ∀ n, o = some n → n ∈ M.files) : 0 ≤ posF M.files o ∧ posF M.files o ≤ 48 := by
  have := files_le hw
  cases o with
  | none => simp [posF]
  | some n =>
    have hlt := List.idxOf_lt_length_of_mem (ho n rfl)
    simp only [posF]
    omega

theorem fencode_nil (w : World) :
    Calls Try.prog 23 #[.pointer none] w fun y w' => y = .returned (.slice none 0 0) ∧ w = w' := by
  go_enter Try.func23, Try.ntmps23
  go_wp2
  go_ret
  exact ⟨rfl, rfl⟩

theorem wrap_u64 {n : Int} (h : 0 ≤ n) (h2 : n ≤ 9223372036854775807) : IntKind.u64.wrap n = n := by
  simp [IntKind.wrap, IntKind.bits, IntKind.signed]
  omega

theorem u64Info : (Try.prog.info? 110).map (fun i => (i.zero, i.size, i.bytes)) = some (some (.int .u64 0), 1, 8) := by kernel_rfl

set_option maxRecDepth 100000 in
set_option maxHeartbeats 3200000 in
theorem fencode {w : World} {b : Nat} {M : FM} {F : Nat → Prop} (h : Fds w b M F) (hx : ∀ n ∈ M.files, (M.fd n).okW) :
    Calls Try.prog 23 #[.pointer (some ⟨b, 0, none⟩)] w fun y w' =>
      ∃ v, y = .returned v ∧ w'.ownsRow w.heap.size 110 1 v M.encode.length (rowU M.encode) ∧ Below w.heap.size w w' := by
  obtain ⟨i0, hi0, hz0, hz1, hz2⟩ := info_parts u64Info
  obtain ⟨hw, hlt, f, hr, hFb, hFn⟩ := h
  have hfs := ffiles hr hw
  have hnf := files_le hw
  have hbl := hlt b hFb
  have HR := Lib.hid hr
  have HW := Lib.hid hw
  have HX := Lib.hid hx
  clear hr hw hx hlt hFb hFn
  go_enter Try.func23, Try.ntmps23
  go_wp2_with fail
  refine hfs.mono ?_
  rintro y w1 ⟨v1, rfl, hown1, hb1⟩
  obtain ⟨A, c, rfl, hcl⟩ := ownCells hown1
  clear hfs hown1
  have HCL := Lib.hid hcl
  have hr1 : FRep w1 b M f := HR.out.keep (hb1.block b hbl) (fun n hn => hb1.block _ (lt_of_heap (HR.out.file n hn)))
  have HR1 := Lib.hid hr1
  have hbl1 : b < w1.heap.size := Nat.lt_of_lt_of_le hbl hb1.size
  clear hcl hr1 HR
  obtain ⟨nf, hnfe⟩ : ∃ nf, nf = M.files.length := ⟨_, rfl⟩
  rw [← hnfe] at hnf ⊢
  have HNF := Lib.hid hnfe
  clear hnfe
  have hfin : ∀ n : Nat, n < nf → ∃ m g, M.files[n]? = some m ∧ m < M.x.length ∧ A = some ⟨g, 0, none⟩ ∧ g < w1.heap.size ∧ w1.cell? ⟨g, n, none⟩ = some (.pointer (some ⟨f m, 0, none⟩)) := by
    intro n hn
    have hn' : n < M.files.length := by rw [← HNF.out]; exact hn
    obtain ⟨g, h1, _, h2, h3⟩ := HCL.out (by omega)
    refine ⟨M.files[n], g, List.getElem?_eq_getElem hn', ?_, h1, h2, ?_⟩
    · exact HW.out.lt _ (mem_filesOf.1 (List.getElem_mem hn'))
    · refine h3 n _ ?_
      unfold filePtrs
      rw [List.getElem?_map, List.getElem?_eq_getElem hn']
      rfl
  have HFN := Lib.hid hfin
  clear hfin
  have H0 : Hid ((w1.alloc (.cells #[.int .u64 (nf : Int)] 110)).ownsRow w1.heap.size 110 1 (.slice (some ⟨w1.heap.size, 0, none⟩) 1 1) (1 + 4 * 0) (rowU (headF M 0))) := by
    have := World.ownsRow_lit (base := w1.heap.size) (e := 110) (size := 1) w1 #[.int .u64 (nf : Int)] 1 (Nat.le_refl _) (by unfold maxLen; omega) rfl
    have h2 : rowU (headF M 0) = [.int .u64 (nf : Int)] := by rw [HNF.out]; simp [headF, rowU]
    show World.ownsRow _ _ _ _ _ _ _
    rw [h2]
    exact this
  go_wp2
  go_loopw [4, 22] (fun v i wr => ∃ k : Nat, k ≤ nf ∧ i = .int .i64 k ∧ Below w1.heap.size w1 wr ∧ wr.ownsRow w1.heap.size 110 1 v (1 + 4 * k) (rowU (headF M k))) (fun _ i _ => nf - (intOf i).toNat)
  case atStart => exact ⟨0, Nat.zero_le _, rfl, (Below.refl _ _).alloc (Nat.le_refl _) _, H0.out⟩
  case round =>
    clear H0
    obtain ⟨k, hk, rfl, hb, hown⟩ := hrel
    have HO := Lib.hid hown
    clear hown
    by_cases hlt : k < nf
    · obtain ⟨m, g, hm, hml, rfl, hg, hc⟩ := HFN.out k hlt
      have hHS := headF_succ M hm
      have hmm : m ∈ M.files := List.mem_of_getElem? hm
      obtain ⟨⟨x1, x2⟩, ⟨x3, x4⟩, ⟨x5, x6⟩⟩ := HX.out m hmm
      obtain ⟨c0, c1, c2, c3, _, _⟩ := HR1.out.fcell hml
      have hfl : f m < w1.heap.size := lt_of_heap (HR1.out.file m hml)
      have k0 : wr.cell? ⟨g, k, none⟩ = some (.pointer (some ⟨f m, 0, none⟩)) := by rw [hb.cell hg]; exact hc
      have q0 : wr.cell? ⟨f m, 0, none⟩ = some (.int .i64 (M.fd m).kind) := by rw [hb.cell hfl]; exact c0
      have q1 : wr.cell? ⟨f m, 1, none⟩ = some (.int .i64 (M.fd m).id) := by rw [hb.cell hfl]; exact c1
      have q2 : wr.cell? ⟨f m, 2, none⟩ = some (.int .i64 (M.fd m).off) := by rw [hb.cell hfl]; exact c2
      have q3 : wr.cell? ⟨f m, 3, none⟩ = some (.bool (M.fd m).app) := by rw [hb.cell hfl]; exact c3
      obtain ⟨X, hX⟩ : ∃ X, X = M.fd m := ⟨_, rfl⟩
      rw [← hX] at hHS x1 x2 x3 x4 x5 x6 q0 q1 q2 q3
      obtain ⟨ki, id, of, ap⟩ := X
      have HHS := Lib.hid hHS
      simp only at x1 x2 x3 x4 x5 x6 q0 q1 q2 q3
      clear hHS hmm hm hX c0 c1 c2 c3 hc
      have ik : (k : Int) < (nf : Int) := by omega
      cases ap
      · have hsn := src_new wr #[.int .u64 ki, .int .u64 id, .int .u64 of, .int .u64 0] 110 1 4 rfl
        have HSN := Lib.hid hsn
        clear hsn
        go_wp2_with fail
        have s1 : 1 + 4 * k + 4 ≤ maxLen := by unfold maxLen; omega
        have s2 : (1 + 4 * k + 4) * 8 ≤ 140737488355328 := by omega
        have s3 : w1.heap.size ≤ ((wr.alloc (.cells #[.int .u64 ki, .int .u64 id, .int .u64 of, .int .u64 0] 110)).drew).heap.size := by have := hb.size; simp; omega
        have e1 : IntKind.u64.wrap ki = ki := wrap_u64 x1 x2
        have e2 : IntKind.u64.wrap id = id := wrap_u64 x3 x4
        have e3 : IntKind.u64.wrap of = of := wrap_u64 x5 x6
        go_region_law (first
          | ((refine step_append_src (by rfl) _ _ 42 (by rfl) w1.heap.size 110 i0 _ 1 8 Try.underlying42 hi0 hz0 hz1 hz2 rfl (by decide) _ _ _ rfl ((HO.out.alloc _).drew) _ _ _ _ rfl HSN.out.drew (by simp [Value.oneCell']) s1 s2 s3 ?_; intro A2 c2 w2 hown2 hg2 hat2)))
        all_goals
          clear e1 e2 e3 s1 s2 s3
          have hb2 : Below w1.heap.size w1 w2 := ((hb.alloc hb.size _).drew).grown hg2 (by have := hb.size; simp; omega) (fun q hq => (HO.out.lt q hq).1)
          have hown3 : w2.ownsRow w1.heap.size 110 1 (.slice A2 (1 + 4 * k + 4) c2) (1 + 4 * (k + 1)) (rowU (headF M (k + 1))) := by
            rw [HHS.out, rowU_append, show 1 + 4 * (k + 1) = 1 + 4 * k + 4 by omega]
            exact hown2
          have HN := Lib.hid hown3
          clear hown2 hown3 hg2 hat2 HSN HHS HO k0 q0 q1 q2 q3
          go_wp2
          go_roundw
          case rel => exact ⟨k + 1, by omega, by go_num, hb2, HN.out⟩
          case measure => simp [intOf]; omega
      · have hsn := src_new wr #[.int .u64 ki, .int .u64 id, .int .u64 of, .int .u64 1] 110 1 4 rfl
        have HSN := Lib.hid hsn
        clear hsn
        go_wp2_with fail
        have s1 : 1 + 4 * k + 4 ≤ maxLen := by unfold maxLen; omega
        have s2 : (1 + 4 * k + 4) * 8 ≤ 140737488355328 := by omega
        have s3 : w1.heap.size ≤ ((wr.alloc (.cells #[.int .u64 ki, .int .u64 id, .int .u64 of, .int .u64 1] 110)).drew).heap.size := by have := hb.size; simp; omega
        have e1 : IntKind.u64.wrap ki = ki := wrap_u64 x1 x2
        have e2 : IntKind.u64.wrap id = id := wrap_u64 x3 x4
        have e3 : IntKind.u64.wrap of = of := wrap_u64 x5 x6
        go_region_law (first
          | ((refine step_append_src (by rfl) _ _ 42 (by rfl) w1.heap.size 110 i0 _ 1 8 Try.underlying42 hi0 hz0 hz1 hz2 rfl (by decide) _ _ _ rfl ((HO.out.alloc _).drew) _ _ _ _ rfl HSN.out.drew (by simp [Value.oneCell']) s1 s2 s3 ?_; intro A2 c2 w2 hown2 hg2 hat2)))
        all_goals
          clear e1 e2 e3 s1 s2 s3
          have hb2 : Below w1.heap.size w1 w2 := ((hb.alloc hb.size _).drew).grown hg2 (by have := hb.size; simp; omega) (fun q hq => (HO.out.lt q hq).1)
          have hown3 : w2.ownsRow w1.heap.size 110 1 (.slice A2 (1 + 4 * k + 4) c2) (1 + 4 * (k + 1)) (rowU (headF M (k + 1))) := by
            rw [HHS.out, rowU_append, show 1 + 4 * (k + 1) = 1 + 4 * k + 4 by omega]
            exact hown2
          have HN := Lib.hid hown3
          clear hown2 hown3 hg2 hat2 HSN HHS HO k0 q0 q1 q2 q3
          go_wp2
          go_roundw
          case rel => exact ⟨k + 1, by omega, by go_num, hb2, HN.out⟩
          case measure => simp [intOf]; omega
    · have hkn : k = nf := by omega
      subst hkn
      have hcells : ∀ j, j < 48 → wr.cell? ((⟨b, 0, none⟩ : Addr).add j) = some (fcell f M j) := fun j hj => by
        rw [add_mk, Nat.zero_add, hb.cell hbl1]; exact (HR1.out.cell j hj).1
      have HCS := Lib.hid hcells
      clear hcells
      obtain ⟨wo, hwo⟩ : ∃ wo : World, wo = wr := ⟨_, rfl⟩
      have hbo : Below w1.heap.size w1 wo := by rw [hwo]; exact hb
      have HBO := Lib.hid hbo
      have hall : M.t.take (0 * 6) = [] := by simp
      have hst : wr.ownsRow w1.heap.size 110 1 u4 (1 + 4 * k + 0 * 6) (rowU (headF M k ++ (M.t.take (0 * 6)).map (posF M.files))) := by
        rw [hall]
        simpa using HO.out
      have HST := Lib.hid hst
      have hlen48 : ∀ i, i ≤ 48 → (M.t.take i).length = i := fun i hi => by rw [List.length_take, HW.out.len]; omega
      clear hbo hall hst HO hlen48
      rw [← hwo] at HCS HST hb ⊢
      clear hwo
      go_wp2_with (with_reducible refine wpList_load_fn rfl 118 _ rfl ⟨b, 0, none⟩ rfl 48 (fcell f M) _ Try.underlying118 rfl tabInfo HCS.out ?_)
      go_loopw [4, 54] (fun v i wr => ∃ q : Nat, q ≤ 8 ∧ i = .int .i64 q ∧ Below w1.heap.size w1 wr ∧ wr.ownsRow w1.heap.size 110 1 v (1 + 4 * k + q * 6) (rowU (headF M k ++ (M.t.take (q * 6)).map (posF M.files)))) (fun _ i _ => 8 - (intOf i).toNat)
      case atStart => exact ⟨0, by omega, rfl, hb, HST.out⟩
      case round =>
        clear HST hb
        obtain ⟨q, hq, rfl, hb, hown⟩ := hrel
        have HO := Lib.hid hown
        clear hown
        by_cases hlt : q < 8
        · have hkb : decide ((q : Int) < 8) = true := by simp; omega
          obtain ⟨p, hp⟩ : ∃ p : Nat → Option Addr, p = fun j => ptrF f (M.get (q * 6 + j)) := ⟨_, rfl⟩
          have hidx : ∀ w, (Instr.index 118 (.agg (rowA 48 (fcell f M))) (.int .i64 q)).run Try.prog w = .ok (.agg #[.pointer (p 0), .pointer (p 1), .pointer (p 2), .pointer (p 3), .pointer (p 4), .pointer (p 5)]) w := fun w => by
            rw [run_index_fds w (fcell f M) q hlt, hp]; rfl
          have HP := Lib.hid hp
          have HI2 := Lib.hid (World.ownsRow.alloc HO.out (.cells #[.pointer (p 0), .pointer (p 1), .pointer (p 2), .pointer (p 3), .pointer (p 4), .pointer (p 5)] 117))
          have HB2 := Lib.hid (hb.alloc hb.size (.cells #[.pointer (p 0), .pointer (p 1), .pointer (p 2), .pointer (p 3), .pointer (p 4), .pointer (p 5)] 117))
          clear hp hb
          go_wp2
          clear hidx
          obtain ⟨wp, hwp⟩ : ∃ wp : World, wp = wr.alloc (.cells #[.pointer (p 0), .pointer (p 1), .pointer (p 2), .pointer (p 3), .pointer (p 4), .pointer (p 5)] 117) := ⟨_, rfl⟩
          rw [← hwp] at HI2 HB2 ⊢
          clear hwp HO
          go_loopw [4, 58] (fun v i w2 => ∃ j : Nat, j ≤ 6 ∧ i = .int .i64 j ∧ Below w1.heap.size w1 w2 ∧ w2.ownsRow w1.heap.size 110 1 v (1 + 4 * k + (q * 6 + j)) (rowU (headF M k ++ (M.t.take (q * 6 + j)).map (posF M.files)))) (fun _ i _ => 6 - (intOf i).toNat)
          case atStart => exact ⟨0, by omega, rfl, HB2.out, HI2.out⟩
          case round =>
            clear HI2 HB2
            obtain ⟨j, hj, rfl, hb, hown⟩ := hrel
            by_cases hj6 : j < 6
            · have hidx := fun w => run_index_row w p j hj6
              have hi48 : q * 6 + j < 48 := by omega
              have hpj : p j = ptrF f (M.get (q * 6 + j)) := by rw [HP.out]
              obtain ⟨o, ho⟩ : ∃ o, o = M.get (q * 6 + j) := ⟨_, rfl⟩
              have hof : ∀ n, o = some n → n ∈ M.files := fun n hn => by
                have h1 := FM.get_at HW.out hi48
                rw [← ho, hn] at h1
                exact mem_filesOf.2 (List.mem_of_getElem? h1)
              have htk : (M.t.take (q * 6 + (j + 1))).map (posF M.files) = (M.t.take (q * 6 + j)).map (posF M.files) ++ [posF M.files o] := by
                rw [← Nat.add_assoc, take_get HW.out hi48, List.map_append, ← ho]; rfl
              rw [← ho] at hpj
              rw [hpj] at hidx
              have hrep2 : FRep wr b M f := HR1.out.keep (hb.block b hbl1) (fun m hm => hb.block _ (lt_of_heap (HR1.out.file m hm)))
              have hcon := findex A k c (ptrF f o) (fun i => ptrF f M.files[i]?) (fun i => decide (o = M.files[i]?)) wr (by omega) (fun i hi => by
                obtain ⟨m, g, h1, _, h2, h3, h4⟩ := HFN.out i hi
                refine ⟨g, 0, h2, ?_⟩
                rw [Nat.zero_add, hb.cell h3, h4, h1]
                rfl) (fun i hi => hrep2.eql o M.files[i]? (fun n hn => HW.out.lt n (mem_filesOf.1 (hof n hn))) (fun n hn => HW.out.lt n (mem_filesOf.1 (List.mem_of_getElem? hn))))
              have hbd := posF_bd HW.out o hof
              have hps := fun i h => posF_first M.files o hof i (by rw [← HNF.out]; exact h)
              obtain ⟨pz, hpz⟩ : ∃ pz, pz = posF M.files o := ⟨_, rfl⟩
              rw [← hpz] at hbd hps htk
              have HTK := Lib.hid htk
              have HPS := Lib.hid hps
              obtain ⟨ptr, hptr⟩ : ∃ ptr, ptr = ptrF f o := ⟨_, rfl⟩
              rw [← hptr] at hidx hcon
              clear hpj ho hof htk hrep2 hps hpz hptr
              go_wp2_with fail
              refine hcon.mono ?_
              rintro y w3 ⟨⟨i, rfl, hi⟩, rfl⟩
              obtain rfl := HPS.out i hi
              clear hcon hi hidx HPS
              go_wp2_with (at_builtin; refine wpList_append_own _ rfl _ _ 42 rfl w1.heap.size 110 i0 (.int .u64 0) 1 8 Try.underlying42 hi0 hz0 hz1 hz2 rfl (by decide) _ _ _ rfl (hown.alloc _) ⟨wr.heap.size, 0, none⟩ 1 1 [.int .u64 pz] rfl rfl ?aa1 ?aa2 ?aa3 ?aa4 ?aa5 ?_)
              case aa1 => exact (cell_one_new _ _ _)
              case aa2 => simp [Value.oneCell']
              case aa3 => unfold maxLen; omega
              case aa4 => omega
              case aa5 => have := hb.size; simp; omega
              intro v' w3 hown3 hg3 _
              have hb3 : Below w1.heap.size w1 w3 := (hb.alloc hb.size _).grown hg3 (by have := hb.size; simp; omega) (fun q hq => (hown.lt q hq).1)
              have hown4 : w3.ownsRow w1.heap.size 110 1 v' (1 + 4 * k + (q * 6 + (j + 1))) (rowU (headF M k ++ (M.t.take (q * 6 + (j + 1))).map (posF M.files))) := by
                rw [HTK.out, ← List.append_assoc, rowU_append, List.map_take]
                exact hown3
              have HN := Lib.hid hown4
              clear hown3 hg3 hown hown4 HTK
              go_wp2
              go_roundw
              case rel => exact ⟨j + 1, by omega, by go_num, hb3, HN.out⟩
              case measure => simp [intOf]; omega
            · have hj6' : j = 6 := by omega
              subst hj6'
              have hown2 : wr.ownsRow w1.heap.size 110 1 u4 (1 + 4 * k + (q + 1) * 6) (rowU (headF M k ++ (M.t.take ((q + 1) * 6)).map (posF M.files))) := by
                rw [show (q + 1) * 6 = q * 6 + 6 by omega]; exact hown
              have HN := Lib.hid hown2
              clear hown hown2
              go_wp2
              go_roundw
              case rel => exact ⟨q + 1, by omega, by go_num, hb, HN.out⟩
              case measure => simp [intOf]; omega
        · have hq8 : q = 8 := by omega
          subst hq8
          have hE : wr.ownsRow w.heap.size 110 1 u4 M.encode.length (rowU M.encode) := by
            have h1 := ownLe HO.out hb1.size
            rw [List.take_of_length_le (by rw [HW.out.len]; omega)] at h1
            have h2 : M.encode = headF M k ++ M.t.map (posF M.files) := by unfold FM.encode; rw [← HNF.out]
            rw [encode_len HW.out, h2, ← HNF.out]
            exact h1
          have HE := Lib.hid hE
          clear hE
          go_wp2
          go_ret
          exact ⟨_, rfl, HE.out, hb1.trans (hb.mono hb1.size)⟩

end Go.Proofs.Ytpclhecpfjkehaa
