/- janusref08.Has; janusref01.Put; janusref08.Holders. -/
import Derived.Test.YtpclhecpfjkehaaRefW2
import Derived.Test.YtpclhecpfjkehaaApp
namespace Go.Proofs.Ytpclhecpfjkehaa
open Go.RowKit

set_option maxRecDepth 100000 in
set_option maxHeartbeats 400000 in
theorem rhas {w : World} {x : Nat} {M : CM} {F : Nat → Prop} (h : RCaps w x M F) (e k i r : Int) (hr : 0 ≤ r ∧ r ≤ 7) (hi : i ≤ 9223372036854775807) :
    Calls Try.prog 12 #[.pointer (some ⟨x, 0, none⟩), .int .i64 e, .int .i64 k, .int .i64 i, .int .i64 r] w fun y w' =>
      y = .returned (.bool (M.has e k i r)) ∧ Below w.heap.size w w' := by
  obtain ⟨A, cap, h0, _, hlen, hrow⟩ := h.reads
  have hxl := h.lt x h.fx
  have hwf := h.wf
  have hmay : ∀ c ∈ M.L, (0 ≤ c.x.id ∧ c.x.id ≤ 1048576) ∧ (1 ≤ c.x.len ∧ c.x.len ≤ 1048576) ∧ (1 ≤ c.x.rights ∧ c.x.rights ≤ 7) := by
    intro c hc
    have := hwf.may c hc
    simp [mayB] at this
    omega
  clear h
  go_enter Try.func12, Try.ntmps12
  go_wp2
  go_loopw [11] (fun t wr => ∃ n : Nat, n ≤ M.L.length ∧ t = .int .i64 n ∧ Below w.heap.size w wr ∧ ∀ j, j < n → ∀ c, M.L[j]? = some c → (c.env == e && coverB c.x k i r) = false) (fun t _ => M.L.length - (intOf t).toNat)
  case atStart => exact ⟨0, by omega, rfl, Below.refl _ _, fun j hj => by omega⟩
  case round =>
    obtain ⟨n, hn, rfl, hb, hno⟩ := hrel
    have r0 : wr.cell? ⟨x, 0, none⟩ = some (.slice A M.L.length cap) := by rw [hb.cell hxl]; exact h0
    have HN := Lib.hid hno
    clear hno
    by_cases hlt : n < M.L.length
    · obtain ⟨c, hc⟩ : ∃ c, c = M.L[n] := ⟨_, rfl⟩
      have hck : M.L[n]? = some c := by rw [hc]; exact List.getElem?_eq_getElem hlt
      have hcm := List.mem_of_getElem? hck
      obtain ⟨m1, m2, m3⟩ := hmay c hcm
      obtain ⟨g, rfl, hg, _, hcell⟩ := hrow n c hck
      have r2 : wr.cell? ⟨g, n * 8 + 2, none⟩ = some (.int .i64 c.env) := by rw [hb.cell hg]; exact hcell 2 _ (by omega) rfl
      have r4 : wr.cell? ⟨g, n * 8 + 4, none⟩ = some (.int .i64 c.x.kind) := by rw [hb.cell hg]; exact hcell 4 _ (by omega) rfl
      have r5 : wr.cell? ⟨g, n * 8 + 5, none⟩ = some (.int .i64 c.x.id) := by rw [hb.cell hg]; exact hcell 5 _ (by omega) rfl
      have r6 : wr.cell? ⟨g, n * 8 + 6, none⟩ = some (.int .i64 c.x.len) := by rw [hb.cell hg]; exact hcell 6 _ (by omega) rfl
      have r7 : wr.cell? ⟨g, n * 8 + 7, none⟩ = some (.int .i64 c.x.rights) := by rw [hb.cell hg]; exact hcell 7 _ (by omega) rfl
      have hnext : ∀ b : Bool, (c.env == e && coverB c.x k i r) = b → b = false → ∀ j, j < n + 1 → ∀ c, M.L[j]? = some c → (c.env == e && coverB c.x k i r) = false := by
        intro b hb1 hb2 j hj d hd
        by_cases hjn : j = n
        · subst hjn
          rw [hck] at hd
          injection hd with hd
          subst hd
          rw [hb1, hb2]
        · exact HN.out j (by omega) d hd
      have HX := Lib.hid hnext
      have HK := Lib.hid hck
      have hcv := rcovers c.x.kind c.x.id c.x.len c.x.rights k i r wr m1 m2 m3 hr hi
      have hhas : (c.env == e && coverB c.x k i r) = true → M.has e k i r = true := fun h1 => List.any_eq_true.2 ⟨c, hcm, h1⟩
      have HH := Lib.hid hhas
      obtain ⟨ce, hce⟩ : ∃ ce, ce = c.env := ⟨_, rfl⟩
      rw [← hce] at r2
      have HE := Lib.hid hce
      clear hnext hck hc hrow hmay hcell hhas hce m1 m2 m3 hcm
      by_cases he : ce = e
      · subst he
        obtain ⟨bv, hbv⟩ : ∃ bv, bv = coverB ⟨c.x.kind, c.x.id, c.x.len, c.x.rights⟩ k i r := ⟨_, rfl⟩
        rw [← hbv] at hcv
        have HB := Lib.hid hbv
        clear hbv
        cases bv with
        | true =>
          go_wp2_with fail
          refine hcv.mono ?_
          rintro y w1 ⟨rfl, hb1⟩
          clear hcv
          go_wp2
          go_ret
          refine ⟨?_, hb.trans (hb1.mono hb.size)⟩
          have h2 : coverB c.x k i r = true := HB.out.symm
          rw [HH.out (by rw [h2, ← HE.out]; simp)]
          rfl
        | false =>
          go_wp2_with fail
          refine hcv.mono ?_
          rintro y w1 ⟨rfl, hb1⟩
          have hb2 := hb.trans (hb1.mono hb.size)
          clear hcv r0 r2 r4 r5 r6 r7
          go_wp2
          go_roundw
          case rel =>
            have h2 : coverB c.x k i r = false := HB.out.symm
            exact ⟨n + 1, by omega, by go_num, hb2, HX.out _ rfl (by rw [h2]; simp)⟩
          case measure => simp [intOf]; omega
      · have hce2 : (ce == e) = false := by rw [beq_eq_false_iff_ne]; exact he
        clear hcv
        go_wp2
        go_roundw
        case rel => exact ⟨n + 1, by omega, by go_num, hb, HX.out _ rfl (by rw [← HE.out, hce2]; rfl)⟩
        case measure => simp [intOf]; omega
    · have hnl : n = M.L.length := by omega
      clear hrow hmay
      go_wp2
      go_ret
      refine ⟨?_, hb⟩
      have : M.has e k i r = false := by
        unfold CM.has
        rw [List.any_eq_false]
        intro c hc
        obtain ⟨j, hj⟩ := List.getElem?_of_mem hc
        rw [HN.out j (by have := (List.getElem?_eq_some_iff.1 hj).1; omega) c hj]; simp
      rw [this]; rfl

end Go.Proofs.Ytpclhecpfjkehaa
