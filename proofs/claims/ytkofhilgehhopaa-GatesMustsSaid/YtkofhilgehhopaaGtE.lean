/-
  Package gates: gate, And; the example.
-/
import Derived.Test.YtkofhilgehhopaaGtD
namespace Go.Proofs.Ytkofhilgehhopaa
open Go Go.ChangeShapes Go.WideShapes Go.ChangeAt Go.RowKit Go.Maps
set_option linter.unusedVariables false
set_option linter.unusedSimpArgs false
attribute [local go_sem ↓] Go.wp_at_zero Go.wp_at_succ
/-- A key's cells. -/
def keyC (k a b c : Int) (s : ByteArray) : Array Value := #[.int .i64 k, .int .i64 a, .int .i64 b, .int .i64 c, .string s]
section
variable {fp : Nat → Prop} {B : Nat} {w : World} {g f m : Nat} {n : Int} {xss : List (List Int)} {D : DataW Unit}
theorem GAt.miss (h : GAt fp B w g f m n xss D) {key : Value} {kl : Lit} (hk : keyOf Try.prog 62 key = some kl) (hm : Maps.has D kl = false) : (Instr.lookup 53 (.map (some m)) key true).run Try.prog w = .ok (.tuple #[.int .i64 0, .bool false]) w := by
  obtain ⟨v, ps, h1, h2⟩ := h.mp.look_ok kkey Try.underlying53 (z := .int .i64 0) (by kernel_rfl) (zd := .lit (.int .i64 0)) (zp := []) (plainElem_int Try.underlying3 (by decide)) hk
  rw [hm] at h1
  have e : D.atKey kl (.lit (.int .i64 0)) = .lit (.int .i64 0) := by
    cases D with
    | map es =>
      have hn : es.find? (fun p => p.1.sameKey kl) = none := by
        rw [List.find?_eq_none]
        intro p hp e
        have : es.any (fun p => p.1.sameKey kl) = true := List.any_eq_true.2 ⟨p, hp, e⟩
        rw [show es.any (fun p => p.1.sameKey kl) = false from hm] at this
        cases this
      unfold DataW.atKey
      simp only [hn]
    | _ => rfl
  rw [e] at h2
  obtain ⟨c, rfl, hc, -⟩ := plainElem_int_inv Try.underlying3 h2
  simp at hc
  rw [← hc.1] at h1
  exact h1
theorem own_tight {R : Value → Option (DataW Unit × List MemPlace)} {P : Program} {k : TypeId} {b q : Nat} (h : w.ownsMap P k R b q D) : w.ownsMap P k R b (Maps.size D) D := by
  obtain ⟨es, clock, hb, F, hs, hD⟩ := h
  refine ⟨es, clock, hb, F, ?_, hD⟩
  rw [hD]
  simp [Maps.size, length_sorted]
set_option maxRecDepth 100000 in
/-- A gate is written down. -/
theorem GAt.had (h : GAt fp B w g f m n xss D) {key : Value} {kl : Lit} (hk : keyOf Try.prog 62 key = some kl) (hs : Maps.size D ≤ 1000000) {x : Int} (hx : -9223372036854775808 ≤ x ∧ x ≤ 9223372036854775807) :
    ∃ w', (Instr.mapUpdate 53 (.map (some m)) key (.int .i64 x)).run Try.prog w = .ok () w' ∧ GAt fp B w' g f m n xss (D.put kl (.lit (.int .i64 x))) ∧ Chg (fun k => k = m) w w' := by
  have hwf : (Lit.int .i64 x).wf = true := by
    have e1 : IntKind.i64.min = -9223372036854775808 := by decide
    have e2 : IntKind.i64.max = 9223372036854775807 := by decide
    simp [Lit.wf, e1, e2]; omega
  obtain ⟨w', hr, ho, ht⟩ := h.mp.store kkey Try.underlying53 (by unfold maxLen; omega) hk (plainElem_int Try.underlying3 hwf)
  have hc : Chg (fun k => k = m) w w' := Chg.of_grown ht.grown (fun k hk => by injection hk with hk; exact hk.symm)
  exact ⟨w', hr, ⟨h.ge, h.bk.chg hc (fun e => h.gm e), h.fo.chg hc (fun x hx e => h.mf (e ▸ hx)), own_tight ho, h.mB, h.gm, h.gf, h.mf⟩, hc⟩
set_option maxHeartbeats 4000000 in
set_option maxRecDepth 100000 in
/-- A conjunction that was not there. -/
theorem gate_and (h : GAt fp B w g f m n xss D) {k0 a b c : Int} {s : ByteArray} {kl : Lit} (hk : keyOf Try.prog 62 (.agg (keyC k0 a b c s)) = some kl) (hm : Maps.has D kl = false) (hs : Maps.size D ≤ 1000000) (hB : B ≤ w.heap.size) (hn0 : 0 ≤ n) (hn : n < 65536) (hx : xss.length ≤ 98000)
    {pa pb : Nat} {x y : Int} (hpa : BoxG fp w m pa (.int .i64 x)) (hpb : BoxG fp w m pb (.int .i64 y)) (hx9 : -65536 ≤ x ∧ x ≤ 65536) (hy9 : -65536 ≤ y ∧ y ≤ 65536) (r1 : rightB [-(n + 1), x] (n + 1) = true) (r2 : rightB [-(n + 1), y] (n + 1) = true) (r3 : rightB [n + 1, -x, -y] (n + 1) = true) :
    Calls Try.prog 31 #[.pointer (some ⟨g, 0, none⟩), .agg (keyC k0 a b c s), .func (.func 32) #[] #[.pointer (some ⟨pa, 0, none⟩), .pointer (some ⟨pb, 0, none⟩)]] w fun e w' => e = .returned (.int .i64 (n + 1)) ∧ GSt fp B w g f m (n + 1) (xss ++ [[-(n + 1), x], [-(n + 1), y], [n + 1, -x, -y]]) (D.put kl (.lit (.int .i64 (n + 1)))) w' := by
  have hW := al2 w (.cells #[.pointer (some ⟨g, 0, none⟩)] 22) (.cells (keyC k0 a b c s) 62)
  have hg := h.below hW
  have hmi := hg.miss hk hm
  have hmd : (Instr.lookup 53 (.map (some m)) (.agg (keyC k0 a b c s)) true).run Try.prog (((w.alloc (.cells #[.pointer (some ⟨g, 0, none⟩)] 22)).alloc (.cells (keyC k0 a b c s) 62)).drew) = .ok (.tuple #[.int .i64 0, .bool false]) (((w.alloc (.cells #[.pointer (some ⟨g, 0, none⟩)] 22)).alloc (.cells (keyC k0 a b c s) 62)).drew) :=
    (hg.below ((Below.refl _ _).drew)).miss hk hm
  obtain ⟨c0, c1, c2⟩ := hg.cells
  have hfl := h.fo.lt'
  have hml := h.mp.lt
  obtain ⟨W2, hW2⟩ : ∃ W2, W2 = ((w.alloc (.cells #[.pointer (some ⟨g, 0, none⟩)] 22)).alloc (.cells (keyC k0 a b c s) 62)).drew := ⟨_, rfl⟩
  have hWd : Below w.heap.size w W2 := by rw [hW2]; exact hW.drew
  have hbx : BoxG fp W2 m w.heap.size (.pointer (some ⟨g, 0, none⟩)) := by
    refine ⟨?_, fun e => by have := hfl _ e; omega, by omega⟩
    rw [hW2]
    exact ((al1 (w.alloc (.cells #[.pointer (some ⟨g, 0, none⟩)] 22)) (.cells (keyC k0 a b c s) 62)).cell (p := ⟨w.heap.size, 0, none⟩) (by simp)).trans ((Blk.new w 22 #[.pointer (some ⟨g, 0, none⟩)]).cell 0)
  have hbk : Blk W2 (w.heap.size + 1) 62 (keyC k0 a b c s) := by
    have := Blk.new (w.alloc (.cells #[.pointer (some ⟨g, 0, none⟩)] 22)) 62 (keyC k0 a b c s)
    rw [hW2]
    exact (by simpa using this : Blk ((w.alloc (.cells #[.pointer (some ⟨g, 0, none⟩)] 22)).alloc (.cells (keyC k0 a b c s) 62)) (w.heap.size + 1) 62 (keyC k0 a b c s))
  have HFR := Lib.hid (Fresh_ (h.below hWd) hn0 hn)
  have HBX := Lib.hid hbx
  have HBK := Lib.hid hbk
  have HFL := Lib.hid hfl
  have HML := Lib.hid hml
  have HWD := Lib.hid hWd
  have HPA := Lib.hid (hpa.below (fp := fp) hWd)
  have HPB := Lib.hid (hpb.below (fp := fp) hWd)
  have HK := Lib.hid hk
  have HM := Lib.hid hm
  have HSZ := Lib.hid hs
  have HBw := Lib.hid hB
  have HX98 := Lib.hid hx
  have HX9 := Lib.hid hx9
  have HY9 := Lib.hid hy9
  have R1 := Lib.hid r1
  have R2 := Lib.hid r2
  have R3 := Lib.hid r3
  have HW2 := Lib.hid hW2
  unfold keyC at *
  clear h hg hk hm hs hB hx hpa hpb hx9 hy9 r1 r2 r3 hW hfl hml hbx hbk hWd hW2
  go_enter Try.func31, Try.ntmps31
  go_wp2_with fail
  go_region_with (fail)
  all_goals
    clear c0 c1 c2 hmi hmd
    go_wp2_with fail
    rw [← HW2.out]
    refine HFR.out.mono ?_
    rintro e w3 ⟨rfl, fp3, hG3, hc3, hs3, hb3⟩
    have x3 := HBX.out.chg hc3 hs3
    have hbk3 := HBK.out.chg hc3 (fun e => by
      rcases e with e | e
      · have := HFL.out _ e; omega
      · have := HML.out; omega)
    have b0 := x3.c
    have k0' := hbk3.cell 0
    have k1' := hbk3.cell 1
    have k2' := hbk3.cell 2
    have k3' := hbk3.cell 3
    have k4' := hbk3.cell 4
    obtain ⟨g0, g1, g2⟩ := hG3.cells
    have d0 : (n + 1 == 0) = false := by rw [beq_eq_false_iff_ne]; omega
    obtain ⟨w4, hr4, hG4, hc4⟩ := (hG3.below ((Below.refl _ _).drew)).had HK.out HSZ.out (x := n + 1) (by omega)
    have HX3 := Lib.hid x3
    have HC3 := Lib.hid hc3
    have HS3 := Lib.hid hs3
    have HB3 := Lib.hid hb3
    have HG4 := Lib.hid hG4
    have hc34 : Chg (fun x => fp3 x ∨ x = m) w3 w4 := ((Chg.of_below (S := fun _ => False) ((Below.refl w3.heap.size w3).drew)).mono (fun _ e => e.elim)).trans hc4 (fun i hi => .inl (.inr hi))
    have hBm : B ≤ m := hG3.mB
    have hB3s : B ≤ w3.heap.size := by have := hG3.mp.lt; omega
    have hb34 : Below B w3 w4 := ((Below.refl w3.heap.size w3).drew.mono hB3s).trans (hc4.below (B := B) hB3s (fun i hi => by have hi : i = m := hi; omega))
    have HP := Lib.hid (and_put hG4 (x3.chg hc34 (fun x hx => .inl hx)) ((HPA.out.chg hc3 hs3).chg hc34 (fun x hx => .inl hx)) ((HPB.out.chg hc3 hs3).chg hc34 (fun x hx => .inl hx)) (Nat.le_trans hB3s hc34.size) ⟨HX98.out, by omega, by omega⟩ ⟨by omega, by omega⟩ HX9.out HY9.out R1.out R2.out R3.out)
    have HC4 := Lib.hid hc34
    have HB4 := Lib.hid hb34
    clear x3 hbk3 hG3 hc3 hs3 hb3 hG4 hc4 hc34 hBm hB3s hb34
    go_wp2_with fail
    go_region_with (fail)
    all_goals
      clear hr4 b0 k0' k1' k2' k3' k4' g0 g1 g2
      go_wp2_with fail
      refine HP.out.mono ?_
      rintro e w5 ⟨rfl, hG5⟩
      have HF := Lib.hid (GSt.pre HWD.out HBw.out (GSt.trans HC3.out HS3.out HB3.out (GSt.trans HC4.out (fun x hx => .inl hx) HB4.out hG5)))
      clear hG5
      go_wp2
      go_ret
      exact ⟨rfl, HF.out⟩
end
end Go.Proofs.Ytkofhilgehhopaa
