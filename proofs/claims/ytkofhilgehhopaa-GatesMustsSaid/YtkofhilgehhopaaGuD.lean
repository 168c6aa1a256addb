/-
  Package gates: the clauses that the closures of Xor and Choose put.
-/
import Derived.Test.YtkofhilgehhopaaGtD
namespace Go.Proofs.Ytkofhilgehhopaa
open Go Go.ChangeShapes Go.WideShapes Go.ChangeAt Go.RowKit Go.Maps
set_option linter.unusedVariables false
set_option linter.unusedSimpArgs false
attribute [local go_sem ↓] Go.wp_at_zero Go.wp_at_succ
section
variable {fp : Nat → Prop} {B : Nat} {w : World} {g f m bx : Nat} {n : Int} {xss : List (List Int)} {D : DataW Unit}
set_option maxHeartbeats 4000000 in
set_option maxRecDepth 100000 in
theorem xor_put (h : GAt fp B w g f m n xss D) {pa pb : Nat} {a b out : Int} (hx : BoxG fp w m bx (.pointer (some ⟨g, 0, none⟩))) (hpa : BoxG fp w m pa (.int .i64 a)) (hpb : BoxG fp w m pb (.int .i64 b)) (hB : B ≤ w.heap.size) (hn : xss.length ≤ 98000 ∧ n ≤ 65536 ∧ 0 ≤ n)
    (ho : 1 ≤ out ∧ out ≤ 65536) (ba : -65536 ≤ a ∧ a ≤ 65536) (bb : -65536 ≤ b ∧ b ≤ 65536) (r0 : rightB [-out, a, b] n = true) (r1 : rightB [-out, -a, -b] n = true) (r2 : rightB [out, -a, b] n = true) (r3 : rightB [out, a, -b] n = true) :
    Calls Try.prog 33 #[.int .i64 out, .func (.func 62) #[] #[.pointer (some ⟨bx, 0, none⟩)], .pointer (some ⟨pa, 0, none⟩), .pointer (some ⟨pb, 0, none⟩)] w fun e w' => e = .returned (.tuple #[]) ∧ GSt fp B w g f m n (xss ++ [[-out, a, b], [-out, -a, -b], [out, -a, b], [out, a, -b]]) D w' := by
  obtain ⟨o0, o1⟩ := ho
  obtain ⟨a0, a1⟩ := ba
  obtain ⟨b0, b1⟩ := bb
  have HN := Lib.hid hn
  have HB := Lib.hid hB
  have R0 := Lib.hid r0
  have R1 := Lib.hid r1
  have R2 := Lib.hid r2
  have R3 := Lib.hid r3
  have s0 : Hid (B ≤ w.heap.size) := Lib.hid hB
  clear hn r0 r1 r2 r3
  go_enter Try.func33, Try.ntmps33
  have hW0 := al1 w (.cells #[.int .i64 (-out), .int .i64 a, .int .i64 b] 3)
  have HP0 := Lib.hid (put1 (h.below hW0) (hx.below hW0) (Nat.le_trans s0.out hW0.size) (int3 w w.heap.size rfl (-out) a b) R0.out (by simp) ⟨by have := HN.out.1; simp; omega, HN.out.2⟩)
  have c0_0 := hpa.c
  have c0_1 := hpb.c
  have HX0 := Lib.hid (hx.below (fp := fp) hW0)
  have B0_0 := Lib.hid (hpa.below (fp := fp) hW0)
  have B0_1 := Lib.hid (hpb.below (fp := fp) hW0)
  have HW0 := Lib.hid hW0
  clear h hW0 hx hpa hpb
  clear hB
  go_wp2_with fail
  refine HP0.out.mono ?_
  rintro e w2 ⟨rfl, fp2, hG2, hc0, hs0, hb0⟩
  have x2 := HX0.out.chg hc0 hs0
  have y2_0 := B0_0.out.chg hc0 hs0
  have y2_1 := B0_1.out.chg hc0 hs0
  have s1 : Hid (B ≤ w2.heap.size) := Lib.hid (Nat.le_trans (Nat.le_trans s0.out HW0.out.size) hc0.size)
  have HC0 := Lib.hid hc0
  have HS0 := Lib.hid hs0
  have HB0 := Lib.hid hb0
  clear hc0 hs0 hb0
  have hW1 := al1 w2 (.cells #[.int .i64 (-out), .int .i64 (-a), .int .i64 (-b)] 3)
  have HP1 := Lib.hid (put1 (hG2.below hW1) (x2.below hW1) (Nat.le_trans s1.out hW1.size) (int3 w2 w2.heap.size rfl (-out) (-a) (-b)) R1.out (by simp) ⟨by have := HN.out.1; simp; omega, HN.out.2⟩)
  have c1_0 := y2_0.c
  have c1_1 := y2_1.c
  have HX1 := Lib.hid (x2.below (fp := fp2) hW1)
  have B1_0 := Lib.hid (y2_0.below (fp := fp2) hW1)
  have B1_1 := Lib.hid (y2_1.below (fp := fp2) hW1)
  have HW1 := Lib.hid hW1
  clear hG2 hW1 x2 y2_0 y2_1
  clear c0_0 c0_1
  go_wp2_with fail
  refine HP1.out.mono ?_
  rintro e w3 ⟨rfl, fp3, hG3, hc1, hs1, hb1⟩
  have x3 := HX1.out.chg hc1 hs1
  have y3_0 := B1_0.out.chg hc1 hs1
  have y3_1 := B1_1.out.chg hc1 hs1
  have s2 : Hid (B ≤ w3.heap.size) := Lib.hid (Nat.le_trans (Nat.le_trans s1.out HW1.out.size) hc1.size)
  have HC1 := Lib.hid hc1
  have HS1 := Lib.hid hs1
  have HB1 := Lib.hid hb1
  clear hc1 hs1 hb1
  have hW2 := al1 w3 (.cells #[.int .i64 out, .int .i64 (-a), .int .i64 b] 3)
  have HP2 := Lib.hid (put1 (hG3.below hW2) (x3.below hW2) (Nat.le_trans s2.out hW2.size) (int3 w3 w3.heap.size rfl out (-a) b) R2.out (by simp) ⟨by have := HN.out.1; simp; omega, HN.out.2⟩)
  have c2_0 := y3_0.c
  have c2_1 := y3_1.c
  have HX2 := Lib.hid (x3.below (fp := fp3) hW2)
  have B2_0 := Lib.hid (y3_0.below (fp := fp3) hW2)
  have B2_1 := Lib.hid (y3_1.below (fp := fp3) hW2)
  have HW2 := Lib.hid hW2
  clear hG3 hW2 x3 y3_0 y3_1
  clear c1_0 c1_1
  go_wp2_with fail
  refine HP2.out.mono ?_
  rintro e w4 ⟨rfl, fp4, hG4, hc2, hs2, hb2⟩
  have x4 := HX2.out.chg hc2 hs2
  have y4_0 := B2_0.out.chg hc2 hs2
  have y4_1 := B2_1.out.chg hc2 hs2
  have s3 : Hid (B ≤ w4.heap.size) := Lib.hid (Nat.le_trans (Nat.le_trans s2.out HW2.out.size) hc2.size)
  have HC2 := Lib.hid hc2
  have HS2 := Lib.hid hs2
  have HB2 := Lib.hid hb2
  clear hc2 hs2 hb2
  have hW3 := al1 w4 (.cells #[.int .i64 out, .int .i64 a, .int .i64 (-b)] 3)
  have HP3 := Lib.hid (put1 (hG4.below hW3) (x4.below hW3) (Nat.le_trans s3.out hW3.size) (int3 w4 w4.heap.size rfl out a (-b)) R3.out (by simp) ⟨by have := HN.out.1; simp; omega, HN.out.2⟩)
  have c3_0 := y4_0.c
  have c3_1 := y4_1.c
  have HX3 := Lib.hid (x4.below (fp := fp4) hW3)
  have B3_0 := Lib.hid (y4_0.below (fp := fp4) hW3)
  have B3_1 := Lib.hid (y4_1.below (fp := fp4) hW3)
  have HW3 := Lib.hid hW3
  clear hG4 hW3 x4 y4_0 y4_1
  clear c2_0 c2_1
  go_wp2_with fail
  refine HP3.out.mono ?_
  rintro e wz ⟨rfl, hGz⟩
  have HF : Hid (GSt fp B w g f m n (xss ++ [[-out, a, b], [-out, -a, -b], [out, -a, b], [out, a, -b]]) D wz) := Lib.hid (by
    have e : xss ++ [[-out, a, b], [-out, -a, -b], [out, -a, b], [out, a, -b]] = xss ++ [[-out, a, b]] ++ [[-out, -a, -b]] ++ [[out, -a, b]] ++ [[out, a, -b]] := by simp
    rw [e]
    exact GSt.pre HW0.out s0.out (GSt.trans HC0.out HS0.out HB0.out (GSt.pre HW1.out s1.out (GSt.trans HC1.out HS1.out HB1.out (GSt.pre HW2.out s2.out (GSt.trans HC2.out HS2.out HB2.out (GSt.pre HW3.out s3.out (hGz))))))))
  clear hGz
  go_wp2
  refine bodyPost_end (v := .tuple #[]) (by first | exact results_none rfl _ _ _ | rfl | kernel_rfl) (by rfl) ?_
  exact ⟨rfl, HF.out⟩
set_option maxHeartbeats 4000000 in
set_option maxRecDepth 100000 in
theorem choose_put (h : GAt fp B w g f m n xss D) {pc pa pb : Nat} {c a b out : Int} (hx : BoxG fp w m bx (.pointer (some ⟨g, 0, none⟩))) (hpc : BoxG fp w m pc (.int .i64 c)) (hpa : BoxG fp w m pa (.int .i64 a)) (hpb : BoxG fp w m pb (.int .i64 b)) (hB : B ≤ w.heap.size) (hn : xss.length ≤ 98000 ∧ n ≤ 65536 ∧ 0 ≤ n)
    (ho : 1 ≤ out ∧ out ≤ 65536) (bc : -65536 ≤ c ∧ c ≤ 65536) (ba : -65536 ≤ a ∧ a ≤ 65536) (bb : -65536 ≤ b ∧ b ≤ 65536) (r0 : rightB [-c, -a, out] n = true) (r1 : rightB [-c, a, -out] n = true) (r2 : rightB [c, -b, out] n = true) (r3 : rightB [c, b, -out] n = true) :
    Calls Try.prog 34 #[.int .i64 out, .func (.func 62) #[] #[.pointer (some ⟨bx, 0, none⟩)], .pointer (some ⟨pc, 0, none⟩), .pointer (some ⟨pa, 0, none⟩), .pointer (some ⟨pb, 0, none⟩)] w fun e w' => e = .returned (.tuple #[]) ∧ GSt fp B w g f m n (xss ++ [[-c, -a, out], [-c, a, -out], [c, -b, out], [c, b, -out]]) D w' := by
  obtain ⟨o0, o1⟩ := ho
  obtain ⟨c0, c1⟩ := bc
  obtain ⟨a0, a1⟩ := ba
  obtain ⟨b0, b1⟩ := bb
  have HN := Lib.hid hn
  have HB := Lib.hid hB
  have R0 := Lib.hid r0
  have R1 := Lib.hid r1
  have R2 := Lib.hid r2
  have R3 := Lib.hid r3
  have s0 : Hid (B ≤ w.heap.size) := Lib.hid hB
  clear hn r0 r1 r2 r3
  go_enter Try.func34, Try.ntmps34
  have hW0 := al1 w (.cells #[.int .i64 (-c), .int .i64 (-a), .int .i64 out] 3)
  have HP0 := Lib.hid (put1 (h.below hW0) (hx.below hW0) (Nat.le_trans s0.out hW0.size) (int3 w w.heap.size rfl (-c) (-a) out) R0.out (by simp) ⟨by have := HN.out.1; simp; omega, HN.out.2⟩)
  have c0_0 := hpc.c
  have c0_1 := hpa.c
  have c0_2 := hpb.c
  have HX0 := Lib.hid (hx.below (fp := fp) hW0)
  have B0_0 := Lib.hid (hpc.below (fp := fp) hW0)
  have B0_1 := Lib.hid (hpa.below (fp := fp) hW0)
  have B0_2 := Lib.hid (hpb.below (fp := fp) hW0)
  have HW0 := Lib.hid hW0
  clear h hW0 hx hpc hpa hpb
  clear hB
  go_wp2_with fail
  refine HP0.out.mono ?_
  rintro e w2 ⟨rfl, fp2, hG2, hc0, hs0, hb0⟩
  have x2 := HX0.out.chg hc0 hs0
  have y2_0 := B0_0.out.chg hc0 hs0
  have y2_1 := B0_1.out.chg hc0 hs0
  have y2_2 := B0_2.out.chg hc0 hs0
  have s1 : Hid (B ≤ w2.heap.size) := Lib.hid (Nat.le_trans (Nat.le_trans s0.out HW0.out.size) hc0.size)
  have HC0 := Lib.hid hc0
  have HS0 := Lib.hid hs0
  have HB0 := Lib.hid hb0
  clear hc0 hs0 hb0
  have hW1 := al1 w2 (.cells #[.int .i64 (-c), .int .i64 a, .int .i64 (-out)] 3)
  have HP1 := Lib.hid (put1 (hG2.below hW1) (x2.below hW1) (Nat.le_trans s1.out hW1.size) (int3 w2 w2.heap.size rfl (-c) a (-out)) R1.out (by simp) ⟨by have := HN.out.1; simp; omega, HN.out.2⟩)
  have c1_0 := y2_0.c
  have c1_1 := y2_1.c
  have c1_2 := y2_2.c
  have HX1 := Lib.hid (x2.below (fp := fp2) hW1)
  have B1_0 := Lib.hid (y2_0.below (fp := fp2) hW1)
  have B1_1 := Lib.hid (y2_1.below (fp := fp2) hW1)
  have B1_2 := Lib.hid (y2_2.below (fp := fp2) hW1)
  have HW1 := Lib.hid hW1
  clear hG2 hW1 x2 y2_0 y2_1 y2_2
  clear c0_0 c0_1 c0_2
  go_wp2_with fail
  refine HP1.out.mono ?_
  rintro e w3 ⟨rfl, fp3, hG3, hc1, hs1, hb1⟩
  have x3 := HX1.out.chg hc1 hs1
  have y3_0 := B1_0.out.chg hc1 hs1
  have y3_1 := B1_1.out.chg hc1 hs1
  have y3_2 := B1_2.out.chg hc1 hs1
  have s2 : Hid (B ≤ w3.heap.size) := Lib.hid (Nat.le_trans (Nat.le_trans s1.out HW1.out.size) hc1.size)
  have HC1 := Lib.hid hc1
  have HS1 := Lib.hid hs1
  have HB1 := Lib.hid hb1
  clear hc1 hs1 hb1
  have hW2 := al1 w3 (.cells #[.int .i64 c, .int .i64 (-b), .int .i64 out] 3)
  have HP2 := Lib.hid (put1 (hG3.below hW2) (x3.below hW2) (Nat.le_trans s2.out hW2.size) (int3 w3 w3.heap.size rfl c (-b) out) R2.out (by simp) ⟨by have := HN.out.1; simp; omega, HN.out.2⟩)
  have c2_0 := y3_0.c
  have c2_1 := y3_1.c
  have c2_2 := y3_2.c
  have HX2 := Lib.hid (x3.below (fp := fp3) hW2)
  have B2_0 := Lib.hid (y3_0.below (fp := fp3) hW2)
  have B2_1 := Lib.hid (y3_1.below (fp := fp3) hW2)
  have B2_2 := Lib.hid (y3_2.below (fp := fp3) hW2)
  have HW2 := Lib.hid hW2
  clear hG3 hW2 x3 y3_0 y3_1 y3_2
  clear c1_0 c1_1 c1_2
  go_wp2_with fail
  refine HP2.out.mono ?_
  rintro e w4 ⟨rfl, fp4, hG4, hc2, hs2, hb2⟩
  have x4 := HX2.out.chg hc2 hs2
  have y4_0 := B2_0.out.chg hc2 hs2
  have y4_1 := B2_1.out.chg hc2 hs2
  have y4_2 := B2_2.out.chg hc2 hs2
  have s3 : Hid (B ≤ w4.heap.size) := Lib.hid (Nat.le_trans (Nat.le_trans s2.out HW2.out.size) hc2.size)
  have HC2 := Lib.hid hc2
  have HS2 := Lib.hid hs2
  have HB2 := Lib.hid hb2
  clear hc2 hs2 hb2
  have hW3 := al1 w4 (.cells #[.int .i64 c, .int .i64 b, .int .i64 (-out)] 3)
  have HP3 := Lib.hid (put1 (hG4.below hW3) (x4.below hW3) (Nat.le_trans s3.out hW3.size) (int3 w4 w4.heap.size rfl c b (-out)) R3.out (by simp) ⟨by have := HN.out.1; simp; omega, HN.out.2⟩)
  have c3_0 := y4_0.c
  have c3_1 := y4_1.c
  have c3_2 := y4_2.c
  have HX3 := Lib.hid (x4.below (fp := fp4) hW3)
  have B3_0 := Lib.hid (y4_0.below (fp := fp4) hW3)
  have B3_1 := Lib.hid (y4_1.below (fp := fp4) hW3)
  have B3_2 := Lib.hid (y4_2.below (fp := fp4) hW3)
  have HW3 := Lib.hid hW3
  clear hG4 hW3 x4 y4_0 y4_1 y4_2
  clear c2_0 c2_1 c2_2
  go_wp2_with fail
  refine HP3.out.mono ?_
  rintro e wz ⟨rfl, hGz⟩
  have HF : Hid (GSt fp B w g f m n (xss ++ [[-c, -a, out], [-c, a, -out], [c, -b, out], [c, b, -out]]) D wz) := Lib.hid (by
    have e : xss ++ [[-c, -a, out], [-c, a, -out], [c, -b, out], [c, b, -out]] = xss ++ [[-c, -a, out]] ++ [[-c, a, -out]] ++ [[c, -b, out]] ++ [[c, b, -out]] := by simp
    rw [e]
    exact GSt.pre HW0.out s0.out (GSt.trans HC0.out HS0.out HB0.out (GSt.pre HW1.out s1.out (GSt.trans HC1.out HS1.out HB1.out (GSt.pre HW2.out s2.out (GSt.trans HC2.out HS2.out HB2.out (GSt.pre HW3.out s3.out (hGz))))))))
  clear hGz
  go_wp2
  refine bodyPost_end (v := .tuple #[]) (by first | exact results_none rfl _ _ _ | rfl | kernel_rfl) (by rfl) ?_
  exact ⟨rfl, HF.out⟩
end
end Go.Proofs.Ytkofhilgehhopaa
