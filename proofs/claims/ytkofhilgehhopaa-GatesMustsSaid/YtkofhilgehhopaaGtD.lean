/-
  Package gates: a gate that was not there, walked.
-/
import Derived.Test.YtkofhilgehhopaaGtC
import Derived.Maps.RangeWalk
namespace Go.Proofs.Ytkofhilgehhopaa
open Go Go.ChangeShapes Go.WideShapes Go.ChangeAt Go.RowKit Go.Maps
set_option linter.unusedVariables false
set_option linter.unusedSimpArgs false
attribute [local go_sem ↓] Go.wp_at_zero Go.wp_at_succ
/-- A box that is none of the gates' blocks. -/
structure BoxG (fp : Nat → Prop) (w : World) (m b : Nat) (v : Value) : Prop where
  c : w.cell? ⟨b, 0, none⟩ = some v
  nf : ¬ fp b
  nm : b ≠ m
section
variable {fp fp1 : Nat → Prop} {B : Nat} {w w1 : World} {g f m bx : Nat} {n : Int} {xss : List (List Int)} {D : DataW Unit}
theorem BoxG.lt {v : Value} (h : BoxG fp w m bx v) : bx < w.heap.size := World.block_lt_of_cell? w _ h.c
theorem BoxG.chg {v : Value} (h : BoxG fp w m bx v) (hc : Chg (fun x => fp x ∨ x = m) w w1) (hs : ∀ x, fp1 x → fp x ∨ w.heap.size ≤ x) : BoxG fp1 w1 m bx v := by
  have hl := h.lt
  refine ⟨?_, fun e => (hs bx e).elim h.nf (by omega), h.nm⟩
  rw [World.cell?_of_block (w := w) (hc.block bx hl (fun e => e.elim h.nf h.nm))]
  exact h.c
theorem BoxG.below {v : Value} (h : BoxG fp w m bx v) (hb : Below w.heap.size w w1) : BoxG fp w1 m bx v :=
  ⟨(hb.cell (p := ⟨bx, 0, none⟩) h.lt).trans h.c, h.nf, h.nm⟩
def ClsN (n : Int) (xss : List (List Int)) : Prop := xss.length ≤ 99000 ∧ n ≤ 65536 ∧ 0 ≤ n
set_option maxHeartbeats 1000000 in
/-- A clause is put. -/
theorem put1 (h : GAt fp B w g f m n xss D) (hx : BoxG fp w m bx (.pointer (some ⟨g, 0, none⟩))) (hB : B ≤ w.heap.size) {u : Value} {l : List Int} (hi : Ints w u l) (hr : rightB l n = true) (hl : l.length ≤ 1000) (hn : ClsN n xss) :
    Calls Try.prog 62 #[u, .pointer (some ⟨bx, 0, none⟩)] w fun e w' => e = .returned (.tuple #[]) ∧ GSt fp B w g f m n (xss ++ [l]) D w' := by
  obtain ⟨c0, c1, c2⟩ := h.cells
  have cx := hx.c
  have HA := Lib.hid (Add_yes h.fo hB hn.2.2 hn.2.1 hi hr (by have := hn.1; omega) (by omega))
  have H := Lib.hid h
  obtain ⟨a, cap, rfl, -⟩ := hi
  generalize l.length = k at *
  clear h hx hB hr hl hn c1 c2
  go_enter Try.func62, Try.ntmps62
  go_wp2_with fail
  refine HA.out.mono ?_
  rintro e w1 ⟨rfl, fp', hF, hc, hs, hb⟩
  have HP : Hid (GSt fp B w g f m n (xss ++ [l]) D w1) := Lib.hid ⟨fp', H.out.form hF hc hs, hc.mono (fun i hi => .inl hi), hs, hb⟩
  clear hF hc hs hb c0 cx
  go_wp2
  refine bodyPost_end (v := .tuple #[]) (by first | exact results_none rfl _ _ _ | rfl | kernel_rfl) (by rfl) ?_
  exact ⟨rfl, HP.out⟩
theorem GSt.pre {n' : Int} {xss' : List (List Int)} {D' : DataW Unit} {w0 w2 : World} (hb : Below w.heap.size w w0) (hB : B ≤ w.heap.size) (h2 : GSt fp B w0 g f m n' xss' D' w2) : GSt fp B w g f m n' xss' D' w2 :=
  GSt.trans (fp1 := fp) ((Chg.of_below (S := fun _ => False) hb).mono (fun _ e => e.elim)) (fun x hx => .inl hx) (hb.mono hB) h2
set_option maxHeartbeats 4000000 in
set_option maxRecDepth 100000 in
/-- The clauses of a conjunction. -/
theorem and_put (h : GAt fp B w g f m n xss D) {pa pb : Nat} {a b out : Int} (hx : BoxG fp w m bx (.pointer (some ⟨g, 0, none⟩))) (hpa : BoxG fp w m pa (.int .i64 a)) (hpb : BoxG fp w m pb (.int .i64 b)) (hB : B ≤ w.heap.size) (hn : xss.length ≤ 98000 ∧ n ≤ 65536 ∧ 0 ≤ n)
    (ho : 1 ≤ out ∧ out ≤ 65536) (ha : -65536 ≤ a ∧ a ≤ 65536) (hb : -65536 ≤ b ∧ b ≤ 65536) (r1 : rightB [-out, a] n = true) (r2 : rightB [-out, b] n = true) (r3 : rightB [out, -a, -b] n = true) :
    Calls Try.prog 32 #[.int .i64 out, .func (.func 62) #[] #[.pointer (some ⟨bx, 0, none⟩)], .pointer (some ⟨pa, 0, none⟩), .pointer (some ⟨pb, 0, none⟩)] w fun e w' => e = .returned (.tuple #[]) ∧ GSt fp B w g f m n (xss ++ [[-out, a], [-out, b], [out, -a, -b]]) D w' := by
  have hW := al1 w (.cells #[.int .i64 (-out), .int .i64 a] 3)
  have HP1 := Lib.hid (put1 (h.below hW) (hx.below hW) (Nat.le_trans hB hW.size) (int2 w w.heap.size rfl (-out) a) r1 (by simp) ⟨by omega, hn.2⟩)
  have ca := hpa.c
  have HX := Lib.hid (hx.below (fp := fp) hW)
  have HPA := Lib.hid (hpa.below hW)
  have HPB := Lib.hid (hpb.below hW)
  have R2 := Lib.hid r2
  have R3 := Lib.hid r3
  have HB := Lib.hid hB
  have HN := Lib.hid hn
  obtain ⟨o0, o1⟩ := ho
  obtain ⟨a0, a1⟩ := ha
  obtain ⟨b0, b1⟩ := hb
  clear h hx hpa hpb hB hn r1 r2 r3 hW
  go_enter Try.func32, Try.ntmps32
  go_wp2_with fail
  refine HP1.out.mono ?_
  rintro e w2 ⟨rfl, fp2, hG2, hc2, hs2, hb2⟩
  have x2 := HX.out.chg hc2 hs2
  have a2 := HPA.out.chg hc2 hs2
  have b2 := HPB.out.chg hc2 hs2
  have hB1 : B ≤ (w.alloc (.cells #[.int .i64 (-out), .int .i64 a] 3)).heap.size := by have := HB.out; simp; omega
  have hB2 : B ≤ w2.heap.size := Nat.le_trans hB1 hc2.size
  have hW2 := al1 w2 (.cells #[.int .i64 (-out), .int .i64 b] 3)
  have HP2 := Lib.hid (put1 (hG2.below hW2) (x2.below hW2) (Nat.le_trans hB2 hW2.size) (int2 w2 w2.heap.size rfl (-out) b) R2.out (by simp) ⟨by have := HN.out.1; simp; omega, HN.out.2⟩)
  have cb := b2.c
  have HX2 := Lib.hid (x2.below (fp := fp2) hW2)
  have HPA2 := Lib.hid (a2.below (fp := fp2) hW2)
  have HPB2 := Lib.hid (b2.below (fp := fp2) hW2)
  have HC2 := Lib.hid hc2
  have HS2 := Lib.hid hs2
  have HB2 := Lib.hid hb2
  have HBS := Lib.hid hB2
  have HBS1 := Lib.hid hB1
  clear hG2 hc2 hs2 hb2 x2 a2 b2 hB2 hW2 hB1 ca
  go_wp2_with fail
  refine HP2.out.mono ?_
  rintro e w3 ⟨rfl, fp3, hG3, hc3, hs3, hb3⟩
  have x3 := HX2.out.chg hc3 hs3
  have a3 := HPA2.out.chg hc3 hs3
  have b3 := HPB2.out.chg hc3 hs3
  have hB3 : B ≤ w3.heap.size := Nat.le_trans (by have := HBS.out; simp; omega : B ≤ (w2.alloc (.cells #[.int .i64 (-out), .int .i64 b] 3)).heap.size) hc3.size
  have hW3 := al1 w3 (.cells #[.int .i64 out, .int .i64 (-a), .int .i64 (-b)] 3)
  have HP3 := Lib.hid (put1 (hG3.below hW3) (x3.below hW3) (Nat.le_trans hB3 hW3.size) (int3 w3 w3.heap.size rfl out (-a) (-b)) R3.out (by simp) ⟨by have := HN.out.1; simp; omega, HN.out.2⟩)
  have ca := a3.c
  have cb := b3.c
  have HC3 := Lib.hid hc3
  have HS3 := Lib.hid hs3
  have HB3 := Lib.hid hb3
  have HBS3 := Lib.hid hB3
  have HW3 := Lib.hid hW3
  clear hG3 hc3 hs3 hb3 x3 a3 b3 hB3 hW3
  go_wp2_with fail
  refine HP3.out.mono ?_
  rintro e w4 ⟨rfl, hG4⟩
  have HF : Hid (GSt fp B w g f m n (xss ++ [[-out, a], [-out, b], [out, -a, -b]]) D w4) := Lib.hid (by
    have e : xss ++ [[-out, a], [-out, b], [out, -a, -b]] = xss ++ [[-out, a]] ++ [[-out, b]] ++ [[out, -a, -b]] := by simp
    rw [e]
    exact GSt.pre (al1 _ _) HB.out (GSt.trans HC2.out HS2.out HB2.out (GSt.pre (al1 _ _) HBS.out (GSt.trans HC3.out HS3.out HB3.out (GSt.pre HW3.out HBS3.out hG4)))))
  clear hG4
  go_wp2
  refine bodyPost_end (v := .tuple #[]) (by first | exact results_none rfl _ _ _ | rfl | kernel_rfl) (by rfl) ?_
  exact ⟨rfl, HF.out⟩
end
end Go.Proofs.Ytkofhilgehhopaa
