/- Laws of layer 18: awake. -/
import Derived.Test.YtpclhecpfjkehaaFdW12
namespace Go.Proofs.Ytpclhecpfjkehaa
open Go.RowKit

/-- Descriptors that the call itself has made, in blocks of F; of what was there when the call began nothing has turned. -/
structure OwnF (w0 w : World) (b : Nat) (M : FM) (F : Nat → Prop) : Prop where
  bel : Below w0.heap.size w0 w
  fds : Fds w b M F
  ge : ∀ k, F k → w0.heap.size ≤ k

theorem OwnF.step {w0 w w' : World} {b : Nat} {M M' : FM} {F : Nat → Prop} (h : OwnF w0 w b M F) (hm : Mod F w w') (hc : Fds w' b M' (New F w w')) : OwnF w0 w' b M' (New F w w') :=
  ⟨h.bel.trans (hm.below h.bel.size (fun i hi hF => by have := h.ge i hF; omega)), hc, fun k hk => hk.elim (h.ge k) (fun h1 => by have := h.bel.size; omega)⟩

theorem OwnF.below {w0 w w' : World} {b : Nat} {M : FM} {F : Nat → Prop} (h : OwnF w0 w b M F) (hb : Below w.heap.size w w') : OwnF w0 w' b M F :=
  ⟨h.bel.trans (hb.mono h.bel.size), h.fds.below hb, h.ge⟩

theorem OwnF.same {w0 w w' : World} {b : Nat} {M : FM} {F : Nat → Prop} (h : OwnF w0 w b M F) (hs : Same w' w) : OwnF w0 w' b M F :=
  h.below (below_same (Below.refl _ _) hs)

theorem FM.empty_get (i : Nat) : FM.empty.get i = none := by
  unfold FM.get FM.empty
  rw [List.getElem?_replicate]
  split <;> rfl

theorem OwnF.new {w0 w : World} (hb : Below w0.heap.size w0 w) : OwnF w0 (w.alloc (.cells zeroFds 120)) w.heap.size FM.empty (fun k => k = w.heap.size) := by
  refine ⟨hb.alloc hb.size _, ⟨FM.WF.ofEmpty, fun k hk => by simp; omega, fun _ => 0, ⟨⟨zeroFds, by rw [heap_alloc, if_pos rfl], zeroFds_size, fun i hi => ?_⟩, (fun n hn => by simp [FM.empty] at hn), (fun n m hn => by simp [FM.empty] at hn)⟩, rfl, (fun n hn => by simp [FM.empty] at hn)⟩, fun k hk => by have := hb.size; omega⟩
  rw [FM.empty_get]
  exact zeroFds_at i hi

theorem WSl.of_own {w : World} {base : Nat} {v : Value} {ws : List Int} (h : w.ownsRow base 110 1 v ws.length (rowU ws)) : WSl w v ws := by
  obtain ⟨A, c, rfl, hc⟩ := ownCells h
  refine ⟨A, c, rfl, ?_, ?_, fun h0 => ?_⟩
  · rcases h.2 with ⟨hv, h1⟩ | ⟨g, cap, cur, hv, _, _, h2, _⟩
    · injection hv with _ h2 _; omega
    · injection hv with _ _ hv; omega
  · rcases h.2 with ⟨hv, h1⟩ | ⟨g, cap, cur, hv, _, _, _, h2, _⟩
    · injection hv with _ _ hv; omega
    · injection hv with _ _ hv
      unfold maxLen at h2
      omega
  · obtain ⟨g, rfl, _, hlt, h1⟩ := hc h0
    refine ⟨g, 0, rfl, hlt, fun i hi => ?_⟩
    rw [Nat.zero_add]
    refine h1 i _ ?_
    unfold rowU
    rw [List.getElem?_map, wdA_get hi]
    rfl

theorem encode_words {M : FM} (hw : M.WF) (hx : ∀ n ∈ M.files, (M.fd n).okW) : WordsOk M.encode := by
  intro x h
  unfold FM.encode at h
  rw [List.mem_append] at h
  have hl := files_le hw
  rcases h with h | h
  · unfold headF at h
    rw [List.mem_cons] at h
    rcases h with rfl | h
    · omega
    · rw [List.mem_flatMap] at h
      obtain ⟨n, hn, h⟩ := h
      obtain ⟨⟨a1, a2⟩, ⟨a3, a4⟩, ⟨a5, a6⟩⟩ := hx n (List.mem_of_mem_take hn)
      unfold wordsF at h
      simp only [List.mem_cons, List.not_mem_nil, or_false] at h
      rcases h with rfl | rfl | rfl | rfl
      · omega
      · omega
      · omega
      · unfold bitI; split <;> omega
  · rw [List.mem_map] at h
    obtain ⟨o, ho, rfl⟩ := h
    have := posF_bd hw o (fun n hn => mem_filesOf.2 (hn ▸ ho))
    omega

/-! The states of 'awake'. -/
def afX : FD := ⟨2, 4, 0, false⟩
def af1 : FM := (FM.empty.open 1 afX).2
def af2 : FM := (af1.dup 1 0).2
def af3 : FM := af2.fork 1 2
def af4 : FM := (af3.close 1 0).2
theorem af_open : FM.empty.open 1 afX = ((0, 0), af1) := by rfl
theorem af_dup : af1.dup 1 0 = ((1, 0), af2) := by rfl
theorem af_close : af3.close 1 0 = ((⟨afX, 3⟩, 0), af4) := by rfl
theorem af_at1 : af4.at 2 1 = (⟨afX, 3⟩, 0) := by rfl
theorem af_at2 : af4.at 1 0 = (FT.zero, 9) := by rfl
theorem af_left1 : af4.left 1 = 5 := by rfl
theorem af_left9 : af4.left 9 = 0 := by rfl
theorem af_files : af4.files = [0] := by rfl
theorem af_fd : af4.fd 0 = afX := by rfl
theorem af_ok : ∀ n ∈ af4.files, (af4.fd n).okW := by
  intro n hn
  rw [af_files] at hn
  simp at hn
  subst hn
  rw [af_fd]
  unfold afX FD.okW
  simp
theorem af_dec : (decode af4.encode).isSome = true := by kernel_rfl

set_option maxRecDepth 100000 in
set_option maxHeartbeats 1600000 in
theorem awakeF (w : World) : Calls Try.prog 19 #[] w fun y w' => y = .returned (.bool true) ∧ Below w.heap.size w w' := by
  go_enter Try.func19, Try.ntmps19
  go_wp2_with fail
  refine (newF _).mono ?_
  rintro y w1 ⟨rfl, hw1⟩
  have o1 : OwnF w w1 w.heap.size FM.empty (fun k => k = w.heap.size) := by rw [← hw1]; exact OwnF.new (Below.refl _ _)
  clear hw1
  have c1 := fopen o1.fds 1 afX 0
  rw [af_open] at c1
  simp only [ftA, afX] at c1
  go_wp2_with fail
  refine c1.mono ?_
  rintro y w2 ⟨rfl, hm2, hc2⟩
  have o2 := o1.step hm2 hc2
  have c2 := fdup o2.fds 1 0
  rw [af_dup] at c2
  clear o1 hm2 hc2 c1
  go_wp2_with fail
  refine c2.mono ?_
  rintro y w3 ⟨rfl, hm3, hc3⟩
  have o3 := o2.step hm3 hc3
  have c3 := ffork o3.fds 1 2
  clear o2 hm3 hc3 c2
  go_wp2_with fail
  refine c3.mono ?_
  rintro y w4 ⟨rfl, hm4, hc4⟩
  have o4 : OwnF w w4 w.heap.size af3 _ := o3.step hm4 hc4
  have c4 := fclose o4.fds 1 0
  rw [af_close] at c4
  simp only [ftA, afX] at c4
  clear o3 hm4 hc4 c3
  go_wp2_with fail
  refine c4.mono ?_
  rintro y w5 ⟨rfl, hm5, hc5⟩
  have o5 := o4.step hm5 hc5
  have o6 := o5.below ((Below.refl _ w5).alloc (Nat.le_refl _) (.cells #[.int .i64 2, .int .i64 4, .int .i64 0, .bool false, .int .i64 3] 56))
  have c5 := fget o6.fds 2 1
  rw [af_at1] at c5
  simp only [ftA, afX] at c5
  have a4 : (w5.alloc (.cells #[.int .i64 2, .int .i64 4, .int .i64 0, .bool false, .int .i64 3] 56)).cell? ⟨w5.heap.size, 4, none⟩ = some (.int .i64 3) := by rw [World.cell?_alloc_new]; rfl
  have hl5 : w5.heap.size < (w5.alloc (.cells #[.int .i64 2, .int .i64 4, .int .i64 0, .bool false, .int .i64 3] 56)).heap.size := by simp
  clear o4 hm5 hc5 c4 o5
  go_wp2_with fail
  refine c5.mono ?_
  rintro y w6 ⟨rfl, hb6⟩
  have b4 : w6.cell? ⟨w5.heap.size, 4, none⟩ = some (.int .i64 3) := by rw [hb6.cell hl5]; exact a4
  have hl6 : w5.heap.size < w6.heap.size := Nat.lt_of_lt_of_le hl5 hb6.size
  have o7 := (o6.below hb6).below ((Below.refl _ w6).alloc (Nat.le_refl _) (.cells #[.int .i64 2, .int .i64 4, .int .i64 0, .bool false, .int .i64 3] 56))
  have c6 := fget o7.fds 1 0
  rw [af_at2] at c6
  simp only [ftA, FT.zero, FD.zero] at c6
  have d1 : (w6.alloc (.cells #[.int .i64 2, .int .i64 4, .int .i64 0, .bool false, .int .i64 3] 56)).cell? ⟨w6.heap.size, 1, none⟩ = some (.int .i64 4) := by rw [World.cell?_alloc_new]; rfl
  have d4 : (w6.alloc (.cells #[.int .i64 2, .int .i64 4, .int .i64 0, .bool false, .int .i64 3] 56)).cell? ⟨w6.heap.size, 4, none⟩ = some (.int .i64 3) := by rw [World.cell?_alloc_new]; rfl
  have b4' : (w6.alloc (.cells #[.int .i64 2, .int .i64 4, .int .i64 0, .bool false, .int .i64 3] 56)).cell? ⟨w5.heap.size, 4, none⟩ = some (.int .i64 3) := by rw [World.cell?_alloc_lt _ _ _ hl6]; exact b4
  have hl7 : w6.heap.size < (w6.alloc (.cells #[.int .i64 2, .int .i64 4, .int .i64 0, .bool false, .int .i64 3] 56)).heap.size := by simp
  have hl8 : w5.heap.size < (w6.alloc (.cells #[.int .i64 2, .int .i64 4, .int .i64 0, .bool false, .int .i64 3] 56)).heap.size := by simp; omega
  clear c5 a4 hl5 o6 hb6
  go_wp2_with fail
  refine c6.mono ?_
  rintro y w7 ⟨rfl, hb7⟩
  have e1 : w7.cell? ⟨w6.heap.size, 1, none⟩ = some (.int .i64 4) := by rw [hb7.cell hl7]; exact d1
  have e4 : w7.cell? ⟨w6.heap.size, 4, none⟩ = some (.int .i64 3) := by rw [hb7.cell hl7]; exact d4
  have e5 : w7.cell? ⟨w5.heap.size, 4, none⟩ = some (.int .i64 3) := by rw [hb7.cell hl8]; exact b4'
  have hm6 : w6.heap.size < w7.heap.size := Nat.lt_of_lt_of_le hl7 hb7.size
  have hm5 : w5.heap.size < w7.heap.size := Nat.lt_of_lt_of_le hl8 hb7.size
  have o8 := (o7.below hb7).below ((Below.refl _ w7).alloc (Nat.le_refl _) (.cells #[.int .i64 0, .int .i64 0, .int .i64 0, .bool false, .int .i64 0] 56))
  have c7 := fencode o8.fds af_ok
  have hal : Below w7.heap.size w7 (w7.alloc (.cells #[.int .i64 0, .int .i64 0, .int .i64 0, .bool false, .int .i64 0] 56)) := (Below.refl _ w7).alloc (Nat.le_refl _) _
  clear c6 d1 d4 b4 b4' hl6 hl7 hl8 hb7 o7
  go_wp2_with fail
  refine c7.mono ?_
  rintro y w8 ⟨v8, rfl, hown8, hb8⟩
  have c8 := decode_any (WSl.of_own hown8) (encode_words o8.fds.wf af_ok)
  have o9 := o8.below hb8
  clear c7 hown8
  go_wp2_with fail
  refine c8.mono ?_
  rintro y w9 ⟨hb9, hans⟩
  have o10 := o9.below hb9
  have hb79 : Below w7.heap.size w7 w9 := (hal.trans (hb8.mono hal.size)).trans (hb9.mono (hal.trans (hb8.mono hal.size)).size)
  have g1 : w9.cell? ⟨w6.heap.size, 1, none⟩ = some (.int .i64 4) := by rw [hb79.cell hm6]; exact e1
  have g4 : w9.cell? ⟨w6.heap.size, 4, none⟩ = some (.int .i64 3) := by rw [hb79.cell hm6]; exact e4
  have g5 : w9.cell? ⟨w5.heap.size, 4, none⟩ = some (.int .i64 3) := by rw [hb79.cell hm5]; exact e5
  have hdec := af_dec
  rcases hans with ⟨hn, _⟩ | ⟨M', g, hn, rfl, _⟩
  · rw [hn] at hdec; cases hdec
  have c9 := fleft o10.fds 1
  rw [af_left1] at c9
  have c10 := fleft o10.fds 9
  rw [af_left9] at c10
  have hbel := o10.bel
  clear c8 hn hdec o8 o9 o10 hb8 hb9 hal hb79 e1 e4 e5
  go_wp2_with fail
  refine c9.mono ?_
  rintro y w10 ⟨rfl, rfl⟩
  go_wp2_with fail
  refine c10.mono ?_
  rintro y w10 ⟨rfl, rfl⟩
  go_wp2
  go_ret
  exact ⟨rfl, hbel⟩

end Go.Proofs.Ytpclhecpfjkehaa
