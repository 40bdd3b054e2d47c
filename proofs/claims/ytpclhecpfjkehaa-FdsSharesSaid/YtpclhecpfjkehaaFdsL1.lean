/- The walk of FdsShares. -/
import Derived.Test.YtpclhecpfjkehaaFdL0
namespace Go.Proofs.Ytpclhecpfjkehaa
open Go.RowKit

def sfX : FD := ⟨2, 7, 0, false⟩
def sf1 : FM := (FM.empty.open 1 sfX).2
def sf2 : FM := (sf1.open 1 sfX).2
def sf3 : FM := (sf2.dup 1 0).2
def sf4 : FM := sf3.fork 1 2
def sf5 (o : Int) : FM := ⟨sf4.t, sf4.x.set 0 ⟨2, 7, o, false⟩⟩
theorem sf_open : FM.empty.open 1 sfX = ((0, 0), sf1) := by rfl
theorem sf_open2 : sf1.open 1 sfX = ((1, 0), sf2) := by rfl
theorem sf_dup : sf2.dup 1 0 = ((2, 0), sf3) := by rfl
theorem sf_seek (o : Int) : sf4.seek 2 2 o = if o < 0 then (22, sf4) else (0, sf5 o) := by rfl
theorem sf_at0 : sf4.at 1 0 = (⟨sfX, 4⟩, 0) := by rfl
theorem sf_at1 : sf4.at 1 1 = (⟨sfX, 2⟩, 0) := by rfl
theorem sf5_at0 (o : Int) : (sf5 o).at 1 0 = (⟨⟨2, 7, o, false⟩, 4⟩, 0) := by rfl
theorem sf5_at1 (o : Int) : (sf5 o).at 1 1 = (⟨sfX, 2⟩, 0) := by rfl

set_option maxRecDepth 100000 in
set_option maxHeartbeats 1600000 in
theorem shares_walk (o : Int) (w : World) : Calls Try.prog 6 #[.int .i64 o] w fun y w' => y = .returned (.bool true) ∧ Below w.heap.size w w' := by
  go_enter Try.func6, Try.ntmps6
  go_wp2_with fail
  refine (newF _).mono ?_
  rintro y w1 ⟨rfl, hw1⟩
  have o1 : OwnF w w1 w.heap.size FM.empty (fun k => k = w.heap.size) := by rw [← hw1]; exact OwnF.new (Below.refl _ _)
  clear hw1
  have c1 := fopen o1.fds 1 sfX 0
  rw [sf_open] at c1
  simp only [ftA, sfX] at c1
  go_wp2_with fail
  refine c1.mono ?_
  rintro y w2 ⟨rfl, hm2, hc2⟩
  have o2 := o1.step hm2 hc2
  have c2 := fopen o2.fds 1 sfX 0
  rw [sf_open2] at c2
  simp only [ftA, sfX] at c2
  clear o1 hm2 hc2 c1
  go_wp2_with fail
  refine c2.mono ?_
  rintro y w3 ⟨rfl, hm3, hc3⟩
  have o3 := o2.step hm3 hc3
  have c3 := fdup o3.fds 1 0
  rw [sf_dup] at c3
  clear o2 hm3 hc3 c2
  go_wp2_with fail
  refine c3.mono ?_
  rintro y w4 ⟨rfl, hm4, hc4⟩
  have o4 := o3.step hm4 hc4
  have c4 := ffork o4.fds 1 2
  clear o3 hm4 hc4 c3
  go_wp2_with fail
  refine c4.mono ?_
  rintro y w5 ⟨rfl, hm5, hc5⟩
  have o5 : OwnF w w5 w.heap.size sf4 _ := o4.step hm5 hc5
  have c5 := fseek o5.fds 2 2 o
  rw [sf_seek] at c5
  clear o4 hm5 hc5 c4
  by_cases ho : o < 0
  · rw [if_pos ho] at c5
    go_wp2_with fail
    refine c5.mono ?_
    rintro y w6 ⟨rfl, hm6, hc6⟩
    have o6 := o5.step hm6 hc6
    have c6 := fget o6.fds 1 0
    rw [sf_at0] at c6
    simp only [ftA, sfX] at c6
    clear o5 hm6 hc6 c5
    go_wp2_with fail
    refine c6.mono ?_
    rintro y w7 ⟨rfl, hb7⟩
    have o7 := (o6.below hb7).below ((Below.refl _ w7).alloc (Nat.le_refl _) (.cells #[.int .i64 2, .int .i64 7, .int .i64 0, .bool false, .int .i64 4] 56))
    have c7 := fget o7.fds 1 1
    rw [sf_at1] at c7
    simp only [ftA, sfX] at c7
    have d2 : (w7.alloc (.cells #[.int .i64 2, .int .i64 7, .int .i64 0, .bool false, .int .i64 4] 56)).cell? ⟨w7.heap.size, 2, none⟩ = some (.int .i64 0) := by rw [World.cell?_alloc_new]; rfl
    have hl7 : w7.heap.size < (w7.alloc (.cells #[.int .i64 2, .int .i64 7, .int .i64 0, .bool false, .int .i64 4] 56)).heap.size := by simp
    clear c6 o6 hb7
    go_wp2_with fail
    refine c7.mono ?_
    rintro y w8 ⟨rfl, hb8⟩
    have e2 : w8.cell? ⟨w7.heap.size, 2, none⟩ = some (.int .i64 0) := by rw [hb8.cell hl7]; exact d2
    have hl8 : w7.heap.size < w8.heap.size := Nat.lt_of_lt_of_le hl7 hb8.size
    have o8 := (o7.below hb8).below ((Below.refl _ w8).alloc (Nat.le_refl _) (.cells #[.int .i64 2, .int .i64 7, .int .i64 0, .bool false, .int .i64 2] 56))
    have f2 : (w8.alloc (.cells #[.int .i64 2, .int .i64 7, .int .i64 0, .bool false, .int .i64 2] 56)).cell? ⟨w7.heap.size, 2, none⟩ = some (.int .i64 0) := by rw [World.cell?_alloc_lt _ _ _ hl8]; exact e2
    have hbel := o8.bel
    have ha := awakeF (w8.alloc (.cells #[.int .i64 2, .int .i64 7, .int .i64 0, .bool false, .int .i64 2] 56))
    clear c7 o7 o8 hb8 d2 e2 hl7 hl8
    go_wp2_with fail
    refine ha.mono ?_
    rintro y w9 ⟨rfl, hb9⟩
    go_wp2
    go_ret
    exact ⟨rfl, hbel.trans (hb9.mono hbel.size)⟩
  · rw [if_neg ho] at c5
    go_wp2_with fail
    refine c5.mono ?_
    rintro y w6 ⟨rfl, hm6, hc6⟩
    have o6 := o5.step hm6 hc6
    have c6 := fget o6.fds 1 0
    rw [sf5_at0] at c6
    simp only [ftA] at c6
    clear o5 hm6 hc6 c5
    go_wp2_with fail
    refine c6.mono ?_
    rintro y w7 ⟨rfl, hb7⟩
    have o7 := (o6.below hb7).below ((Below.refl _ w7).alloc (Nat.le_refl _) (.cells #[.int .i64 2, .int .i64 7, .int .i64 o, .bool false, .int .i64 4] 56))
    have c7 := fget o7.fds 1 1
    rw [sf5_at1] at c7
    simp only [ftA, sfX] at c7
    have d1 : (w7.alloc (.cells #[.int .i64 2, .int .i64 7, .int .i64 o, .bool false, .int .i64 4] 56)).cell? ⟨w7.heap.size, 1, none⟩ = some (.int .i64 7) := by rw [World.cell?_alloc_new]; rfl
    have d2 : (w7.alloc (.cells #[.int .i64 2, .int .i64 7, .int .i64 o, .bool false, .int .i64 4] 56)).cell? ⟨w7.heap.size, 2, none⟩ = some (.int .i64 o) := by rw [World.cell?_alloc_new]; rfl
    have d4 : (w7.alloc (.cells #[.int .i64 2, .int .i64 7, .int .i64 o, .bool false, .int .i64 4] 56)).cell? ⟨w7.heap.size, 4, none⟩ = some (.int .i64 4) := by rw [World.cell?_alloc_new]; rfl
    have hl7 : w7.heap.size < (w7.alloc (.cells #[.int .i64 2, .int .i64 7, .int .i64 o, .bool false, .int .i64 4] 56)).heap.size := by simp
    clear c6 o6 hb7
    go_wp2_with fail
    refine c7.mono ?_
    rintro y w8 ⟨rfl, hb8⟩
    have e1 : w8.cell? ⟨w7.heap.size, 1, none⟩ = some (.int .i64 7) := by rw [hb8.cell hl7]; exact d1
    have e2 : w8.cell? ⟨w7.heap.size, 2, none⟩ = some (.int .i64 o) := by rw [hb8.cell hl7]; exact d2
    have e4 : w8.cell? ⟨w7.heap.size, 4, none⟩ = some (.int .i64 4) := by rw [hb8.cell hl7]; exact d4
    have hl8 : w7.heap.size < w8.heap.size := Nat.lt_of_lt_of_le hl7 hb8.size
    have o8 := (o7.below hb8).below ((Below.refl _ w8).alloc (Nat.le_refl _) (.cells #[.int .i64 2, .int .i64 7, .int .i64 0, .bool false, .int .i64 2] 56))
    have f1 : (w8.alloc (.cells #[.int .i64 2, .int .i64 7, .int .i64 0, .bool false, .int .i64 2] 56)).cell? ⟨w7.heap.size, 1, none⟩ = some (.int .i64 7) := by rw [World.cell?_alloc_lt _ _ _ hl8]; exact e1
    have f2 : (w8.alloc (.cells #[.int .i64 2, .int .i64 7, .int .i64 0, .bool false, .int .i64 2] 56)).cell? ⟨w7.heap.size, 2, none⟩ = some (.int .i64 o) := by rw [World.cell?_alloc_lt _ _ _ hl8]; exact e2
    have f4 : (w8.alloc (.cells #[.int .i64 2, .int .i64 7, .int .i64 0, .bool false, .int .i64 2] 56)).cell? ⟨w7.heap.size, 4, none⟩ = some (.int .i64 4) := by rw [World.cell?_alloc_lt _ _ _ hl8]; exact e4
    have g2 : (w8.alloc (.cells #[.int .i64 2, .int .i64 7, .int .i64 0, .bool false, .int .i64 2] 56)).cell? ⟨w8.heap.size, 2, none⟩ = some (.int .i64 0) := by rw [World.cell?_alloc_new]; rfl
    have hbel := o8.bel
    have ha := awakeF (w8.alloc (.cells #[.int .i64 2, .int .i64 7, .int .i64 0, .bool false, .int .i64 2] 56))
    clear c7 o7 o8 hb8 d1 d2 d4 e1 e2 e4 hl7 hl8
    go_wp2_with fail
    refine ha.mono ?_
    rintro y w9 ⟨rfl, hb9⟩
    go_wp2
    go_ret
    exact ⟨rfl, hbel.trans (hb9.mono hbel.size)⟩

end Go.Proofs.Ytpclhecpfjkehaa
