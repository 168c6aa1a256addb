/-
  Package gates: gate, by the closures of And and Xor.
-/
import Derived.Test.YtkofhilgehhopaaGuA
namespace Go.Proofs.Ytkofhilgehhopaa
open Go Go.ChangeShapes Go.WideShapes Go.ChangeAt Go.RowKit Go.Maps
set_option linter.unusedVariables false
set_option linter.unusedSimpArgs false
attribute [local go_sem ↓] Go.wp_at_zero Go.wp_at_succ
section
variable {fp : Nat → Prop} {B : Nat} {w : World} {g f m : Nat} {S : GS}
set_option maxHeartbeats 4000000 in
set_option maxRecDepth 100000 in
theorem gate_A (h : GMem fp B w g f m S) (x : GKey) (hx : x.ok) (hB : B ≤ w.heap.size) (hn : S.n < 60000) (htb : S.tab.length ≤ 1000000) {pa pb : Nat} (cls : Int → List (List Int))
    (HC : ∀ fp1 w1 D1, Chg (fun y => fp y ∨ y = m) w w1 → (∀ y, fp1 y → fp y ∨ w.heap.size ≤ y) → GAt fp1 B w1 g f m ((S.n : Int) + 1) S.cl D1 → BoxG fp1 w1 m w.heap.size (.pointer (some ⟨g, 0, none⟩)) → B ≤ w1.heap.size →
      Calls Try.prog 32 #[.int .i64 ((S.n : Int) + 1), .func (.func 62) #[] #[.pointer (some ⟨w.heap.size, 0, none⟩)], .pointer (some ⟨pa, 0, none⟩), .pointer (some ⟨pb, 0, none⟩)] w1 fun e w' => e = .returned (.tuple #[]) ∧ GSt fp1 B w1 g f m ((S.n : Int) + 1) (S.cl ++ cls ((S.n : Int) + 1)) D1 w') :
    Calls Try.prog 31 #[.pointer (some ⟨g, 0, none⟩), x.v, .func (.func 32) #[] #[.pointer (some ⟨pa, 0, none⟩), .pointer (some ⟨pb, 0, none⟩)]] w fun e w' => e = .returned (.int .i64 (gateS x cls S).1) ∧ GLeft fp B w g f m (gateS x cls S).2 w' := by
  obtain ⟨D, hr, hG⟩ := h
  have hW := al2 w (.cells #[.pointer (some ⟨g, 0, none⟩)] 22) (.cells (keyC x.k x.a x.b x.c ⟨x.s.toArray⟩) 62)
  have hg := hG.below hW
  obtain ⟨c0, c1, c2⟩ := hg.cells
  have hfl := hG.fo.lt'
  have hml := hG.mp.lt
  obtain ⟨W2, hW2⟩ : ∃ W2, W2 = ((w.alloc (.cells #[.pointer (some ⟨g, 0, none⟩)] 22)).alloc (.cells (keyC x.k x.a x.b x.c ⟨x.s.toArray⟩) 62)).drew := ⟨_, rfl⟩
  have hWd : Below w.heap.size w W2 := by rw [hW2]; exact hW.drew
  cases ho : S.tab.lookup x with
  | some o =>
    have hmi := hg.hit hr hx ho
    have hmd : (Instr.lookup 53 (.map (some m)) x.v true).run Try.prog (((w.alloc (.cells #[.pointer (some ⟨g, 0, none⟩)] 22)).alloc (.cells (keyC x.k x.a x.b x.c ⟨x.s.toArray⟩) 62)).drew) = .ok (.tuple #[.int .i64 o, .bool true]) (((w.alloc (.cells #[.pointer (some ⟨g, 0, none⟩)] 22)).alloc (.cells (keyC x.k x.a x.b x.c ⟨x.s.toArray⟩) 62)).drew) :=
      (hg.below ((Below.refl _ _).drew)).hit hr hx ho
    have e1 : gateS x cls S = (o, S) := by unfold gateS; rw [ho]
    rw [e1]
    have HF : Hid (GLeft fp B w g f m S W2) := Lib.hid ⟨D, hr, GSt.of hG hWd hB⟩
    have HW2 := Lib.hid hW2
    clear hr hG hg hfl hml hWd ho e1 HC hW2 hW
    obtain ⟨k0, a, b, c, sl⟩ := x
    unfold GKey.v at *
    unfold keyC at *
    dsimp only at *
    generalize (⟨sl.toArray⟩ : ByteArray) = s at *
    go_enter Try.func31, Try.ntmps31
    go_wp2_with fail
    go_region_with (fail)
    all_goals
      clear c0 c1 c2 hmi hmd
      go_wp2_with fail
      go_ret
      exact ⟨rfl, by first | (rw [← HW2.out]; exact HF.out) | exact HF.out⟩
  | none =>
    have hm0 : Maps.has D x.l = false := by rw [hr.has x hx, ho]; rfl
    have hmi := hg.miss (x.of hx) hm0
    have hmd : (Instr.lookup 53 (.map (some m)) x.v true).run Try.prog (((w.alloc (.cells #[.pointer (some ⟨g, 0, none⟩)] 22)).alloc (.cells (keyC x.k x.a x.b x.c ⟨x.s.toArray⟩) 62)).drew) = .ok (.tuple #[.int .i64 0, .bool false]) (((w.alloc (.cells #[.pointer (some ⟨g, 0, none⟩)] 22)).alloc (.cells (keyC x.k x.a x.b x.c ⟨x.s.toArray⟩) 62)).drew) :=
      (hg.below ((Below.refl _ _).drew)).miss (x.of hx) hm0
    have e1 : gateS x cls S = ((S.n : Int) + 1, ⟨S.n + 1, S.cl ++ cls ((S.n : Int) + 1), (x, (S.n : Int) + 1) :: S.tab⟩) := by unfold gateS; rw [ho]; rfl
    rw [e1]
    have hbx : BoxG fp W2 m w.heap.size (.pointer (some ⟨g, 0, none⟩)) := by
      refine ⟨?_, fun e => by have := hfl _ e; omega, by omega⟩
      rw [hW2]
      exact ((al1 (w.alloc (.cells #[.pointer (some ⟨g, 0, none⟩)] 22)) (.cells (keyC x.k x.a x.b x.c ⟨x.s.toArray⟩) 62)).cell (p := ⟨w.heap.size, 0, none⟩) (by simp)).trans ((Blk.new w 22 #[.pointer (some ⟨g, 0, none⟩)]).cell 0)
    have hbk : Blk W2 (w.heap.size + 1) 62 (keyC x.k x.a x.b x.c ⟨x.s.toArray⟩) := by
      have := Blk.new (w.alloc (.cells #[.pointer (some ⟨g, 0, none⟩)] 22)) 62 (keyC x.k x.a x.b x.c ⟨x.s.toArray⟩)
      rw [hW2]
      exact (by simpa using this : Blk ((w.alloc (.cells #[.pointer (some ⟨g, 0, none⟩)] 22)).alloc (.cells (keyC x.k x.a x.b x.c ⟨x.s.toArray⟩) 62)) (w.heap.size + 1) 62 (keyC x.k x.a x.b x.c ⟨x.s.toArray⟩))
    have HFR := Lib.hid (Fresh_ (hG.below hWd) (by omega) (by omega))
    have HBX := Lib.hid hbx
    have HBK := Lib.hid hbk
    have HFL := Lib.hid hfl
    have HML := Lib.hid hml
    have HWD := Lib.hid hWd
    have HK := Lib.hid (x.of hx)
    have HR := Lib.hid hr
    have HX := Lib.hid hx
    have HSZ : Hid (Maps.size D ≤ 1000000) := Lib.hid (by have := hr.sz; omega)
    have HBw := Lib.hid hB
    have HW2 := Lib.hid hW2
    have HCC := Lib.hid HC
    have hn2 : (S.n : Int) < 60000 := by omega
    have hn0 : (0 : Int) ≤ (S.n : Int) := by omega
    obtain ⟨n, hnn⟩ : ∃ n : Int, n = (S.n : Int) := ⟨_, rfl⟩
    rw [← hnn] at HFR HCC hn2 hn0 ⊢
    have HNN := Lib.hid hnn
    clear hr hG hg hx hB hW hfl hml hbx hbk hWd hW2 e1 HC ho hm0 hnn htb hn
    obtain ⟨k0, a, b, c, sl⟩ := x
    unfold GKey.v at *
    unfold keyC at *
    dsimp only at *
    generalize hss : (⟨sl.toArray⟩ : ByteArray) = s at *
    have HSS := Lib.hid hss
    clear hss
    go_enter Try.func31, Try.ntmps31
    go_wp2_with fail
    go_region_with (fail)
    all_goals
      clear c0 c1 c2 hmi hmd
      go_wp2_with fail
      rw [← HW2.out]
      refine HFR.out.mono ?_
      rintro e w3 ⟨rfl, fp3, hG3, hc3, hs3, hb3⟩
      have x3 := HBX.out.chg hc3 hs3
      have hbk3 := HBK.out.chg hc3 (fun e => by
        rcases e with e | e
        · have := HFL.out _ e; omega
        · have := HML.out; omega)
      have b0 := x3.c
      have k0' := hbk3.cell 0
      have k1' := hbk3.cell 1
      have k2' := hbk3.cell 2
      have k3' := hbk3.cell 3
      have k4' := hbk3.cell 4
      obtain ⟨g0, g1, g2⟩ := hG3.cells
      have d0 : (n + 1 == 0) = false := by rw [beq_eq_false_iff_ne]; omega
      have htd := (hG3.below ((Below.refl _ _).drew)).tidy
      obtain ⟨w4, hr4, hG4, hc4⟩ := (hG3.below ((Below.refl _ _).drew)).had HK.out HSZ.out (x := n + 1) (by omega)
      have hc34 : Chg (fun x => fp3 x ∨ x = m) w3 w4 := ((Chg.of_below (S := fun _ => False) ((Below.refl w3.heap.size w3).drew)).mono (fun _ e => e.elim)).trans hc4 (fun i hi => .inl (.inr hi))
      have hBm : B ≤ m := hG3.mB
      have hB3s : B ≤ w3.heap.size := by have := hG3.mp.lt; omega
      have hb34 : Below B w3 w4 := ((Below.refl w3.heap.size w3).drew.mono hB3s).trans (hc4.below (B := B) hB3s (fun i hi => by have hi : i = m := hi; omega))
      have hcw : Chg (fun y => fp y ∨ y = m) w w4 := ((((Chg.of_below (S := fun _ => False) HWD.out).mono (fun _ e => e.elim)).trans hc3 (fun i hi => .inl hi)).trans hc34 (fun i hi => by
        rcases hi with hi | hi
        · rcases hs3 i hi with e | e
          · exact .inl (.inl e)
          · exact .inr (Nat.le_trans HWD.out.size e)
        · exact .inl (.inr hi)))
      have HP := Lib.hid (HCC.out fp3 w4 _ hcw (fun y hy => (hs3 y hy).elim .inl (fun e => .inr (Nat.le_trans HWD.out.size e))) hG4 (x3.chg hc34 (fun x hx => .inl hx)) (Nat.le_trans hB3s hc34.size))
      have HRP := Lib.hid (HR.out.put htd HX.out (n + 1))
      have HC3 := Lib.hid hc3
      have HS3 := Lib.hid hs3
      have HB3 := Lib.hid hb3
      have HC4 := Lib.hid hc34
      have HB4 := Lib.hid hb34
      clear x3 hbk3 hG3 hc3 hs3 hb3 hG4 hc4 hc34 hBm hB3s hb34 hcw htd
      go_wp2_with fail
      go_region_with (fail)
      all_goals
        clear hr4 b0 k0' k1' k2' k3' k4' g0 g1 g2
        go_wp2_with fail
        refine HP.out.mono ?_
        rintro e w5 ⟨rfl, hG5⟩
        have HF := Lib.hid (GSt.pre HWD.out HBw.out (GSt.trans HC3.out HS3.out HB3.out (GSt.trans HC4.out (fun x hx => .inl hx) HB4.out hG5)))
        clear hG5
        go_wp2
        go_ret
        refine ⟨rfl, _, HRP.out, ?_⟩
        have e3 : ((S.n + 1 : Nat) : Int) = n + 1 := by rw [HNN.out]; rfl
        dsimp only
        rw [e3]
        exact HF.out
set_option maxHeartbeats 4000000 in
set_option maxRecDepth 100000 in
theorem gate_X (h : GMem fp B w g f m S) (x : GKey) (hx : x.ok) (hB : B ≤ w.heap.size) (hn : S.n < 60000) (htb : S.tab.length ≤ 1000000) {pa pb : Nat} (cls : Int → List (List Int))
    (HC : ∀ fp1 w1 D1, Chg (fun y => fp y ∨ y = m) w w1 → (∀ y, fp1 y → fp y ∨ w.heap.size ≤ y) → GAt fp1 B w1 g f m ((S.n : Int) + 1) S.cl D1 → BoxG fp1 w1 m w.heap.size (.pointer (some ⟨g, 0, none⟩)) → B ≤ w1.heap.size →
      Calls Try.prog 33 #[.int .i64 ((S.n : Int) + 1), .func (.func 62) #[] #[.pointer (some ⟨w.heap.size, 0, none⟩)], .pointer (some ⟨pa, 0, none⟩), .pointer (some ⟨pb, 0, none⟩)] w1 fun e w' => e = .returned (.tuple #[]) ∧ GSt fp1 B w1 g f m ((S.n : Int) + 1) (S.cl ++ cls ((S.n : Int) + 1)) D1 w') :
    Calls Try.prog 31 #[.pointer (some ⟨g, 0, none⟩), x.v, .func (.func 33) #[] #[.pointer (some ⟨pa, 0, none⟩), .pointer (some ⟨pb, 0, none⟩)]] w fun e w' => e = .returned (.int .i64 (gateS x cls S).1) ∧ GLeft fp B w g f m (gateS x cls S).2 w' := by
  obtain ⟨D, hr, hG⟩ := h
  have hW := al2 w (.cells #[.pointer (some ⟨g, 0, none⟩)] 22) (.cells (keyC x.k x.a x.b x.c ⟨x.s.toArray⟩) 62)
  have hg := hG.below hW
  obtain ⟨c0, c1, c2⟩ := hg.cells
  have hfl := hG.fo.lt'
  have hml := hG.mp.lt
  obtain ⟨W2, hW2⟩ : ∃ W2, W2 = ((w.alloc (.cells #[.pointer (some ⟨g, 0, none⟩)] 22)).alloc (.cells (keyC x.k x.a x.b x.c ⟨x.s.toArray⟩) 62)).drew := ⟨_, rfl⟩
  have hWd : Below w.heap.size w W2 := by rw [hW2]; exact hW.drew
  cases ho : S.tab.lookup x with
  | some o =>
    have hmi := hg.hit hr hx ho
    have hmd : (Instr.lookup 53 (.map (some m)) x.v true).run Try.prog (((w.alloc (.cells #[.pointer (some ⟨g, 0, none⟩)] 22)).alloc (.cells (keyC x.k x.a x.b x.c ⟨x.s.toArray⟩) 62)).drew) = .ok (.tuple #[.int .i64 o, .bool true]) (((w.alloc (.cells #[.pointer (some ⟨g, 0, none⟩)] 22)).alloc (.cells (keyC x.k x.a x.b x.c ⟨x.s.toArray⟩) 62)).drew) :=
      (hg.below ((Below.refl _ _).drew)).hit hr hx ho
    have e1 : gateS x cls S = (o, S) := by unfold gateS; rw [ho]
    rw [e1]
    have HF : Hid (GLeft fp B w g f m S W2) := Lib.hid ⟨D, hr, GSt.of hG hWd hB⟩
    have HW2 := Lib.hid hW2
    clear hr hG hg hfl hml hWd ho e1 HC hW2 hW
    obtain ⟨k0, a, b, c, sl⟩ := x
    unfold GKey.v at *
    unfold keyC at *
    dsimp only at *
    generalize (⟨sl.toArray⟩ : ByteArray) = s at *
    go_enter Try.func31, Try.ntmps31
    go_wp2_with fail
    go_region_with (fail)
    all_goals
      clear c0 c1 c2 hmi hmd
      go_wp2_with fail
      go_ret
      exact ⟨rfl, by first | (rw [← HW2.out]; exact HF.out) | exact HF.out⟩
  | none =>
    have hm0 : Maps.has D x.l = false := by rw [hr.has x hx, ho]; rfl
    have hmi := hg.miss (x.of hx) hm0
    have hmd : (Instr.lookup 53 (.map (some m)) x.v true).run Try.prog (((w.alloc (.cells #[.pointer (some ⟨g, 0, none⟩)] 22)).alloc (.cells (keyC x.k x.a x.b x.c ⟨x.s.toArray⟩) 62)).drew) = .ok (.tuple #[.int .i64 0, .bool false]) (((w.alloc (.cells #[.pointer (some ⟨g, 0, none⟩)] 22)).alloc (.cells (keyC x.k x.a x.b x.c ⟨x.s.toArray⟩) 62)).drew) :=
      (hg.below ((Below.refl _ _).drew)).miss (x.of hx) hm0
    have e1 : gateS x cls S = ((S.n : Int) + 1, ⟨S.n + 1, S.cl ++ cls ((S.n : Int) + 1), (x, (S.n : Int) + 1) :: S.tab⟩) := by unfold gateS; rw [ho]; rfl
    rw [e1]
    have hbx : BoxG fp W2 m w.heap.size (.pointer (some ⟨g, 0, none⟩)) := by
      refine ⟨?_, fun e => by have := hfl _ e; omega, by omega⟩
      rw [hW2]
      exact ((al1 (w.alloc (.cells #[.pointer (some ⟨g, 0, none⟩)] 22)) (.cells (keyC x.k x.a x.b x.c ⟨x.s.toArray⟩) 62)).cell (p := ⟨w.heap.size, 0, none⟩) (by simp)).trans ((Blk.new w 22 #[.pointer (some ⟨g, 0, none⟩)]).cell 0)
    have hbk : Blk W2 (w.heap.size + 1) 62 (keyC x.k x.a x.b x.c ⟨x.s.toArray⟩) := by
      have := Blk.new (w.alloc (.cells #[.pointer (some ⟨g, 0, none⟩)] 22)) 62 (keyC x.k x.a x.b x.c ⟨x.s.toArray⟩)
      rw [hW2]
      exact (by simpa using this : Blk ((w.alloc (.cells #[.pointer (some ⟨g, 0, none⟩)] 22)).alloc (.cells (keyC x.k x.a x.b x.c ⟨x.s.toArray⟩) 62)) (w.heap.size + 1) 62 (keyC x.k x.a x.b x.c ⟨x.s.toArray⟩))
    have HFR := Lib.hid (Fresh_ (hG.below hWd) (by omega) (by omega))
    have HBX := Lib.hid hbx
    have HBK := Lib.hid hbk
    have HFL := Lib.hid hfl
    have HML := Lib.hid hml
    have HWD := Lib.hid hWd
    have HK := Lib.hid (x.of hx)
    have HR := Lib.hid hr
    have HX := Lib.hid hx
    have HSZ : Hid (Maps.size D ≤ 1000000) := Lib.hid (by have := hr.sz; omega)
    have HBw := Lib.hid hB
    have HW2 := Lib.hid hW2
    have HCC := Lib.hid HC
    have hn2 : (S.n : Int) < 60000 := by omega
    have hn0 : (0 : Int) ≤ (S.n : Int) := by omega
    obtain ⟨n, hnn⟩ : ∃ n : Int, n = (S.n : Int) := ⟨_, rfl⟩
    rw [← hnn] at HFR HCC hn2 hn0 ⊢
    have HNN := Lib.hid hnn
    clear hr hG hg hx hB hW hfl hml hbx hbk hWd hW2 e1 HC ho hm0 hnn htb hn
    obtain ⟨k0, a, b, c, sl⟩ := x
    unfold GKey.v at *
    unfold keyC at *
    dsimp only at *
    generalize hss : (⟨sl.toArray⟩ : ByteArray) = s at *
    have HSS := Lib.hid hss
    clear hss
    go_enter Try.func31, Try.ntmps31
    go_wp2_with fail
    go_region_with (fail)
    all_goals
      clear c0 c1 c2 hmi hmd
      go_wp2_with fail
      rw [← HW2.out]
      refine HFR.out.mono ?_
      rintro e w3 ⟨rfl, fp3, hG3, hc3, hs3, hb3⟩
      have x3 := HBX.out.chg hc3 hs3
      have hbk3 := HBK.out.chg hc3 (fun e => by
        rcases e with e | e
        · have := HFL.out _ e; omega
        · have := HML.out; omega)
      have b0 := x3.c
      have k0' := hbk3.cell 0
      have k1' := hbk3.cell 1
      have k2' := hbk3.cell 2
      have k3' := hbk3.cell 3
      have k4' := hbk3.cell 4
      obtain ⟨g0, g1, g2⟩ := hG3.cells
      have d0 : (n + 1 == 0) = false := by rw [beq_eq_false_iff_ne]; omega
      have htd := (hG3.below ((Below.refl _ _).drew)).tidy
      obtain ⟨w4, hr4, hG4, hc4⟩ := (hG3.below ((Below.refl _ _).drew)).had HK.out HSZ.out (x := n + 1) (by omega)
      have hc34 : Chg (fun x => fp3 x ∨ x = m) w3 w4 := ((Chg.of_below (S := fun _ => False) ((Below.refl w3.heap.size w3).drew)).mono (fun _ e => e.elim)).trans hc4 (fun i hi => .inl (.inr hi))
      have hBm : B ≤ m := hG3.mB
      have hB3s : B ≤ w3.heap.size := by have := hG3.mp.lt; omega
      have hb34 : Below B w3 w4 := ((Below.refl w3.heap.size w3).drew.mono hB3s).trans (hc4.below (B := B) hB3s (fun i hi => by have hi : i = m := hi; omega))
      have hcw : Chg (fun y => fp y ∨ y = m) w w4 := ((((Chg.of_below (S := fun _ => False) HWD.out).mono (fun _ e => e.elim)).trans hc3 (fun i hi => .inl hi)).trans hc34 (fun i hi => by
        rcases hi with hi | hi
        · rcases hs3 i hi with e | e
          · exact .inl (.inl e)
          · exact .inr (Nat.le_trans HWD.out.size e)
        · exact .inl (.inr hi)))
      have HP := Lib.hid (HCC.out fp3 w4 _ hcw (fun y hy => (hs3 y hy).elim .inl (fun e => .inr (Nat.le_trans HWD.out.size e))) hG4 (x3.chg hc34 (fun x hx => .inl hx)) (Nat.le_trans hB3s hc34.size))
      have HRP := Lib.hid (HR.out.put htd HX.out (n + 1))
      have HC3 := Lib.hid hc3
      have HS3 := Lib.hid hs3
      have HB3 := Lib.hid hb3
      have HC4 := Lib.hid hc34
      have HB4 := Lib.hid hb34
      clear x3 hbk3 hG3 hc3 hs3 hb3 hG4 hc4 hc34 hBm hB3s hb34 hcw htd
      go_wp2_with fail
      go_region_with (fail)
      all_goals
        clear hr4 b0 k0' k1' k2' k3' k4' g0 g1 g2
        go_wp2_with fail
        refine HP.out.mono ?_
        rintro e w5 ⟨rfl, hG5⟩
        have HF := Lib.hid (GSt.pre HWD.out HBw.out (GSt.trans HC3.out HS3.out HB3.out (GSt.trans HC4.out (fun x hx => .inl hx) HB4.out hG5)))
        clear hG5
        go_wp2
        go_ret
        refine ⟨rfl, _, HRP.out, ?_⟩
        have e3 : ((S.n + 1 : Nat) : Int) = n + 1 := by rw [HNN.out]; rfl
        dsimp only
        rw [e3]
        exact HF.out
end
end Go.Proofs.Ytkofhilgehhopaa
