/-
  The document's Print of witnesses, walked.
-/
import Derived.Test.YtojeomjabihieaaDoorTrF
namespace Go.Proofs.YtojeomjabihieaaDoor
open Go.ChangeShapes Go.WideShapes Go.ChangeAt Go.RowKit
set_option linter.unusedVariables false
theorem cat2 {P : Program} (a b : ByteArray) (la lb : Nat) (ha : a.size ≤ la) (hb : b.size ≤ lb) (h : la + lb ≤ 9223372036854775807) : ∃ c, c = a ++ b ∧ c.size ≤ la + lb ∧ ∀ W, (Op.stringOp .add a b).run P W = .ok (.string c) W :=
  ⟨a ++ b, rfl, by rw [ByteArray.size_append]; omega, fun W => run_cat W a b _ (by omega) rfl⟩
theorem r15_dec (x : Int) (h0 : 0 ≤ x) (h1 : x < 18446744073709551616) (W : World) : Calls Tryd.prog 42 #[.int .u64 x] W fun e w' => e = .returned (.string (bs (decT x))) ∧ Below W.heap.size W w' := by
  have := dec_ x.toNat (by omega) W
  rw [Int.toNat_of_nonneg h0] at this
  exact this
theorem bsT_size {n : Int} (h : n < 18446744073709551616) : (bs (decT n)).size ≤ 20 := by rw [bs_size]; exact decT_len h
set_option maxHeartbeats 1000000 in
theorem r15_Print_no {w : World} {d : TrD} {vl vm vi : Value} (h : TrP w d vl vm vi) (hd : rightT d = false) : Calls Tryd.prog 28 #[trV d vl vm vi] w fun e w' => e = .returned (.tuple #[.string (bs []), .int .i64 14]) ∧ Below w.heap.size w w' := by
  obtain ⟨a1, c1, hv1⟩ := h.lat.len
  obtain ⟨a2, c2, hv2, -, -⟩ := h.mems.form
  obtain ⟨a3, c3, hv3, -, -⟩ := h.ins.form
  have HB0 : Hid (∀ x, Below w.heap.size w (w.alloc x)) := Lib.hid fun x => (Below.refl _ _).alloc (Nat.le_refl _) _
  have HR := Lib.hid (fun x => r15_Right (h.below (HB0.out x)))
  subst hv1 hv2 hv3
  have e0 : bs [] = ⟨#[]⟩ := rfl
  rw [hd] at HR
  rw [e0]
  unfold trV at *
  obtain ⟨lat, mems, ins, bad⟩ := d
  clear h hd e0
  simp only at *
  generalize lat.length = n1 at *
  generalize mems.length = n2 at *
  generalize ins.length = n3 at *
  go_enter Tryd.func28, Tryd.ntmps28
  go_wp2_with fail
  refine (HR.out _).mono ?_
  rintro e w1 ⟨rfl, hb1⟩
  have HB1 := Lib.hid ((HB0.out _).trans (hb1.mono (HB0.out _).size))
  clear hb1
  go_wp2
  go_ret2
  exact ⟨rfl, HB1.out⟩
/-- Between two statements: the box, the text. -/
def RPr (w : World) (cs : Array Value) (wr : World) : Prop := Blk wr w.heap.size 33 cs ∧ Below w.heap.size w wr
theorem RPr.below {w wr w' : World} {cs : Array Value} (h : RPr w cs wr) (hb : Below wr.heap.size wr w') : RPr w cs w' := ⟨h.1.below hb h.1.lt, h.2.trans (hb.mono h.2.size)⟩
set_option maxHeartbeats 8000000 in
set_option maxRecDepth 100000 in
theorem r15_Print_yes {w : World} {d : TrD} {vl vm vi : Value} (h : TrP w d vl vm vi) (hd : rightT d = true) : Calls Tryd.prog 28 #[trV d vl vm vi] w (PrintPost w (printT d)) := by
  obtain ⟨b1, b2, b3, b4, b5, b6, b7⟩ := right_parts hd
  obtain ⟨a1, c1, hv1⟩ := h.lat.len
  obtain ⟨a2, c2, hv2, -, -⟩ := h.mems.form
  obtain ⟨a3, c3, hv3, -, -⟩ := h.ins.form
  have HB0 : Hid (∀ x, Below w.heap.size w (w.alloc x)) := Lib.hid fun x => (Below.refl _ _).alloc (Nat.le_refl _) _
  have HR := Lib.hid (fun x => r15_Right (h.below (HB0.out x)))
  have H := Lib.hid h
  have B6 := Lib.hid b6
  have B7 := Lib.hid b7
  have HH := Lib.hid (headT_len b1 (by omega))
  rw [hd] at HR
  subst hv1 hv2 hv3
  unfold trV at *
  obtain ⟨n1, hn1⟩ : ∃ n, n = d.lat.length := ⟨_, rfl⟩
  obtain ⟨n2, hn2⟩ : ∃ n, n = d.mems.length := ⟨_, rfl⟩
  obtain ⟨n3, hn3⟩ : ∃ n, n = d.ins.length := ⟨_, rfl⟩
  obtain ⟨bad, hbad⟩ : ∃ n, n = d.bad := ⟨_, rfl⟩
  have hla := truT_len d.lat (by omega)
  rw [← hn1, ← hn2, ← hn3, ← hbad] at HR ⊢
  rw [← hn1] at b1
  rw [← hn2] at b2
  rw [← hn3] at b3
  rw [← hbad] at b4 b5
  have N1 := Lib.hid hn1
  have N2 := Lib.hid hn2
  have N3 := Lib.hid hn3
  have NB := Lib.hid hbad
  obtain ⟨cs, hcs⟩ : ∃ cs : Array Value, cs = #[.slice a1 n1 c1, .slice a2 n2 c2, .slice a3 n3 c3, .int .i64 bad] := ⟨_, rfl⟩
  have hbk0 := Blk.new w 33 #[.slice a1 n1 c1, .slice a2 n2 c2, .slice a3 n3 c3, .int .i64 bad]
  have K : Hid (∀ W, RPr w cs W → W.cell? ⟨w.heap.size, 0, none⟩ = some (.slice a1 n1 c1) ∧ W.cell? ⟨w.heap.size, 1, none⟩ = some (.slice a2 n2 c2) ∧ W.cell? ⟨w.heap.size, 2, none⟩ = some (.slice a3 n3 c3) ∧ W.cell? ⟨w.heap.size, 3, none⟩ = some (.int .i64 bad)) := Lib.hid fun W hW => by
    have h1 := hW.1
    rw [hcs] at h1
    exact load_agg4 h1
  rw [← hcs] at hbk0
  have HBK0 := Lib.hid hbk0
  have HCS := Lib.hid hcs
  clear h hd b6 b7 hn1 hn2 hn3 hbad hcs hbk0
  go_enter Tryd.func28, Tryd.ntmps28
  go_wp2_with fail
  refine (HR.out _).mono ?_
  rintro e w1 ⟨rfl, hb1⟩
  have hR1 : RPr w cs w1 := ⟨by
    have := HBK0.out
    rw [HCS.out] at this ⊢
    exact this.below hb1 (by simp), (HB0.out _).trans (hb1.mono (HB0.out _).size)⟩
  have R1 := Lib.hid hR1
  obtain ⟨k0, k1, -, -⟩ := K.out _ hR1
  clear hb1 hR1 HR HB0 HBK0
  have D1 := Lib.hid (r15_dec (n1 : Int) (by omega) (by omega))
  have D2 := Lib.hid (r15_dec (n2 : Int) (by omega) (by omega))
  have y1 := bsT_size (n := (n1 : Int)) (by omega)
  have y2 := bsT_size (n := (n2 : Int)) (by omega)
  obtain ⟨s1, hs1⟩ : ∃ s, s = bs (decT (n1 : Int)) := ⟨_, rfl⟩
  obtain ⟨s2, hs2⟩ : ∃ s, s = bs (decT (n2 : Int)) := ⟨_, rfl⟩
  rw [← hs1] at D1 y1
  rw [← hs2] at D2 y2
  obtain ⟨p1, e1, x1, r1⟩ := cat2 (P := Tryd.prog) (⟨#[116, 114, 97, 99, 101, 32]⟩ : ByteArray) s1 6 20 (by decide) y1 (by omega)
  obtain ⟨p2, e2, x2, r2⟩ := cat2 (P := Tryd.prog) p1 (⟨#[32]⟩ : ByteArray) 26 1 (by omega) (by decide) (by omega)
  obtain ⟨p3, e3, x3, r3⟩ := cat2 (P := Tryd.prog) p2 s2 27 20 (by omega) y2 (by omega)
  obtain ⟨p4, e4, x4, r4⟩ := cat2 (P := Tryd.prog) p3 (⟨#[10]⟩ : ByteArray) 47 1 (by omega) (by decide) (by omega)
  have E4 : Hid (p4 = bs (lineT [116, 114, 97, 99, 101] [decT (n1 : Int), decT (n2 : Int)])) := Lib.hid (by
    have l0 : (⟨#[116, 114, 97, 99, 101, 32]⟩ : ByteArray) = bs [116, 114, 97, 99, 101, 32] := rfl
    have l1 : (⟨#[32]⟩ : ByteArray) = bs [32] := rfl
    have l2 : (⟨#[10]⟩ : ByteArray) = bs [10] := rfl
    rw [e4, e3, e2, e1, hs1, hs2, l0, l1, l2, bs_app, bs_app, bs_app, bs_app]
    congr 1
    simp [lineT, wordT])
  have z1 : IntKind.u64.wrap (n1 : Int) = (n1 : Int) := IntWalk.u64_in _ (by omega)
  have z2 : IntKind.u64.wrap (n2 : Int) = (n2 : Int) := IntWalk.u64_in _ (by omega)
  have HBL := Lib.hid (show RPr w cs w1.drew from ⟨R1.out.1, R1.out.2.drew⟩)
  clear hs1 hs2 e1 e2 e3 e4 x1 x2 x3 y1 y2
  go_wp2_with fail
  go_region_held3 (fun w' => w'.cell? ⟨w.heap.size, 0, none⟩ = some (.slice a1 n1 c1) ∧ w'.cell? ⟨w.heap.size, 1, none⟩ = some (.slice a2 n2 c2)) (go_keep) (first
    | (go_at_call 42; (with_reducible refine (D1.out _).mono ?_); rintro e wa ⟨rfl, qa⟩; have QA := Lib.hid (HBL.out.below qa); obtain ⟨ka, la, -, -⟩ := K.out _ (HBL.out.below qa); clear qa)
    | (go_at_call 42; (with_reducible refine (D2.out _).mono ?_); rintro e wb ⟨rfl, qb⟩; have QB := Lib.hid (QA.out.below qb); obtain ⟨kb, lb, -, -⟩ := K.out _ (QA.out.below qb); clear qb))
  clear ka la k0 k1 D1 D2 r1 r2 r3 r4 z1 z2 HBL R1
  have hTR := r15_truths (w := wb) (by rw [N1.out]; exact H.out.lat.below stays_bo QB.out.2 : Bo wb (.slice a1 n1 c1) d.lat) (by rw [← N1.out]; omega)
  obtain ⟨s3, hs3⟩ : ∃ s, s = bs (truT d.lat) := ⟨_, rfl⟩
  have y3 : s3.size ≤ 5000 := by rw [hs3, bs_size]; exact hla
  rw [← hs3] at hTR
  obtain ⟨p5, e5, x5, r5⟩ := cat2 (P := Tryd.prog) p4 (⟨#[108, 97, 116, 99, 104, 101, 115, 32]⟩ : ByteArray) 48 8 (by omega) (by decide) (by omega)
  obtain ⟨p6, e6, x6, r6⟩ := cat2 (P := Tryd.prog) p5 s3 56 5000 (by omega) y3 (by omega)
  obtain ⟨p7, e7, x7, r7⟩ := cat2 (P := Tryd.prog) p6 (⟨#[10]⟩ : ByteArray) 5056 1 (by omega) (by decide) (by omega)
  have E7 : Hid (p7 = bs (headT d)) := Lib.hid (by
    have l0 : (⟨#[108, 97, 116, 99, 104, 101, 115, 32]⟩ : ByteArray) = bs [108, 97, 116, 99, 104, 101, 115, 32] := rfl
    have l2 : (⟨#[10]⟩ : ByteArray) = bs [10] := rfl
    rw [e7, e6, e5, E4.out, hs3, l0, l2, bs_app, bs_app, bs_app]
    unfold headT
    rw [← N1.out, ← N2.out]
    congr 1
    simp [lineT, wordT])
  have HTR := Lib.hid hTR
  clear hTR hs3 e5 e6 e7 x4 x5 x6 y3 E4 hla
  go_wp2_with fail
  refine HTR.out.mono ?_
  rintro e wx ⟨rfl, rfl⟩
  go_wp2
  clear kb lb r5 r6 r7 HTR
  go_loopw [4, 5] (fun s i wr => ∃ k : Nat, k ≤ n2 ∧ i = .int .i64 k ∧ (∃ t, s = .string t ∧ t = bs (headT d ++ memsT d.mems k)) ∧ RPr w cs wr) (fun _ i _ => n2 - (intOf i).toNat)
  case atStart => exact ⟨0, Nat.zero_le _, rfl, ⟨p7, rfl, by rw [E7.out]; simp [memsT]⟩, QB.out⟩
  case round =>
    obtain ⟨k, hk, rfl, ⟨t, rfl, ht⟩, hR⟩ := hrel
    clear x7
    obtain ⟨k0, k1, k2, k3⟩ := K.out _ hR
    by_cases hlt : (k : Int) < (n2 : Int)
    · have hkn : k < d.mems.length := by have := N2.out; omega
      obtain ⟨b, off, cap2, he, u, hcell, hpr⟩ := H.out.mems.at_ hkn
      injection he with e1 e2 e3
      subst e1
      have hmt := memsT_len (mems := d.mems) (fun k hk => by
        obtain ⟨b, off, cap2, he, u, hcell, hpr⟩ := H.out.mems.at_ hk
        exact ⟨pairs_wf hpr, B7.out k hk⟩) (by rw [← N2.out]; omega) k (by omega)
      have hms := memsT_succ d.mems k
      have h7 := B7.out k hkn
      generalize d.mems.getD k [] = ce at *
      obtain ⟨xa, xc, hxe, -, -, hwf, hcs⟩ := hpr
      obtain ⟨cn, hcn⟩ : ∃ cn, cn = ce.length := ⟨_, rfl⟩
      rw [← hcn] at hxe h7
      subst hxe
      rw [Nat.mul_one] at hcell
      obtain ⟨pre, hpre⟩ : ∃ pre, pre = headT d ++ memsT d.mems k := ⟨_, rfl⟩
      have hpl : pre.length ≤ 1700000 := by
        rw [hpre, List.length_append]
        have := HH.out
        have : k * 409600 ≤ 4 * 409600 := Nat.mul_le_mul_right _ (by omega)
        omega
      rw [← hpre] at ht
      have HTX := Lib.hid ht
      have HCL := Lib.hid hcell
      have HMS := Lib.hid hms
      have HPRE := Lib.hid hpre
      have HCN := Lib.hid hcn
      have HCE := Lib.hid hcs
      have HWF := Lib.hid hwf
      have HRW := Lib.hid hR
      clear hcell hmt hms hcs hwf hcn hpre e2 e3 hR ht
      obtain ⟨wo, rfl⟩ : ∃ wo : World, wo = wr := ⟨_, rfl⟩
      go_wp2
      clear k0 k1 k2 k3
      go_loopw [4, 6] (fun s i wi => ∃ j : Nat, j ≤ cn ∧ i = .int .i64 j ∧ (∃ t, s = .string t ∧ t = bs (pre ++ (ce.take j).flatMap (cellT k))) ∧ RPr w cs wi) (fun _ i _ => cn - (intOf i).toNat)
      case atStart => exact ⟨0, Nat.zero_le _, rfl, ⟨t, rfl, by rw [HTX.out]; simp⟩, HRW.out⟩
      case round =>
        obtain ⟨j, hj, rfl, ⟨t2, rfl, ht2⟩, hR2⟩ := hrel
        obtain ⟨k0, k1, k2, k3⟩ := K.out _ hR2
        have kc := cell_below HCL.out hR2.2
        have hml := memT_len (i := k) (by omega) HWF.out j (by have := HCN.out; omega)
        have hjm : j * 100 ≤ 4096 * 100 := Nat.mul_le_mul_right _ (by omega)
        have ht2s : t2.size ≤ 3000000 := by rw [ht2, bs_size, List.length_append]; omega
        have HR2 := Lib.hid hR2
        by_cases hlj : (j : Int) < (cn : Int)
        · have hjc : j < ce.length := by have := HCN.out; omega
          have hne : ce ≠ [] := fun e => by rw [e] at hjc; simp at hjc
          obtain ⟨b2, off2, rfl, -, hcc⟩ := HCE.out.resolve_left hne
          obtain ⟨q1, q2⟩ := hcc j hjc
          obtain ⟨⟨x0, x1⟩, ⟨y0, y1⟩⟩ := wf_getD HWF.out j
          have hst := flat_step (cellT k) (0, 0) hjc
          obtain ⟨x, hx⟩ : ∃ x, x = (ce.getD j (0, 0)).1 := ⟨_, rfl⟩
          obtain ⟨y, hy⟩ : ∃ y, y = (ce.getD j (0, 0)).2 := ⟨_, rfl⟩
          have hxy : cellT k (ce.getD j (0, 0)) = lineT [99, 101, 108, 108] [decT (k : Int), decT x, decT y] := by unfold cellT; rw [hx, hy]
          rw [← hx] at q1 x0 x1
          rw [← hy] at q2 y0 y1
          have q1 := cell_below q1 hR2.2
          have q2 := cell_below q2 hR2.2
          have hp2 : RPr w cs (wr.alloc (.cells #[.int .u64 x, .int .u64 y] 74)) := RPr.below hR2 ((Below.refl _ _).alloc (Nat.le_refl _) _)
          have hbk := Blk.new wr 74 #[.int .u64 x, .int .u64 y]
          have D1 := Lib.hid (r15_dec (k : Int) (by omega) (by omega))
          have D2 := Lib.hid (r15_dec x x0 x1)
          have D3 := Lib.hid (r15_dec y y0 y1)
          have g1 := bsT_size (n := (k : Int)) (by omega)
          have g2 := bsT_size x1
          have g3 := bsT_size y1
          obtain ⟨s1, hs1⟩ : ∃ s, s = bs (decT (k : Int)) := ⟨_, rfl⟩
          obtain ⟨s2, hs2⟩ : ∃ s, s = bs (decT x) := ⟨_, rfl⟩
          obtain ⟨s3, hs3⟩ : ∃ s, s = bs (decT y) := ⟨_, rfl⟩
          rw [← hs1] at D1 g1
          rw [← hs2] at D2 g2
          rw [← hs3] at D3 g3
          obtain ⟨v1, e1, w1', r1⟩ := cat2 (P := Tryd.prog) t2 (⟨#[99, 101, 108, 108, 32]⟩ : ByteArray) 3000000 5 ht2s (by decide) (by omega)
          obtain ⟨v2, e2, w2', r2⟩ := cat2 (P := Tryd.prog) v1 s1 3000005 20 (by omega) g1 (by omega)
          obtain ⟨v3, e3, w3', r3⟩ := cat2 (P := Tryd.prog) v2 (⟨#[32]⟩ : ByteArray) 3000025 1 (by omega) (by decide) (by omega)
          obtain ⟨v4, e4, w4', r4⟩ := cat2 (P := Tryd.prog) v3 s2 3000026 20 (by omega) g2 (by omega)
          obtain ⟨v5, e5, w5', r5⟩ := cat2 (P := Tryd.prog) v4 (⟨#[32]⟩ : ByteArray) 3000046 1 (by omega) (by decide) (by omega)
          obtain ⟨v6, e6, w6', r6⟩ := cat2 (P := Tryd.prog) v5 s3 3000047 20 (by omega) g3 (by omega)
          obtain ⟨v7, e7, w7', r7⟩ := cat2 (P := Tryd.prog) v6 (⟨#[10]⟩ : ByteArray) 3000067 1 (by omega) (by decide) (by omega)
          have E7 : Hid (v7 = bs (pre ++ (ce.take (j + 1)).flatMap (cellT k))) := Lib.hid (by
            have l0 : (⟨#[99, 101, 108, 108, 32]⟩ : ByteArray) = bs [99, 101, 108, 108, 32] := rfl
            have l1 : (⟨#[32]⟩ : ByteArray) = bs [32] := rfl
            have l2 : (⟨#[10]⟩ : ByteArray) = bs [10] := rfl
            rw [hst, hxy, e7, e6, e5, e4, e3, e2, e1, ht2, hs1, hs2, hs3, l0, l1, l2]
            simp only [bs_app]
            congr 1
            simp [lineT, wordT])
          clear hst hx hy hxy hcc hne hs1 hs2 hs3 e1 e2 e3 e4 e5 e6 e7 w1' w2' w3' w4' w5' w6' w7' g1 g2 g3 ht2 ht2s hml hjm hR2
          have z1 : IntKind.u64.wrap (k : Int) = (k : Int) := IntWalk.u64_in _ (by omega)
          go_wp2_with fail
          generalize hW0 : wr.alloc (.cells #[.int .u64 x, .int .u64 y] 74) = W0 at *
          clear hW0
          generalize wr.heap.size = g at *
          have KB : Hid (∀ W, Below W0.heap.size W0 W → Blk W g 74 #[.int .u64 x, .int .u64 y]) := Lib.hid fun W hW => hbk.below hW hbk.lt
          have c0 : W0.cell? ⟨g, 0, none⟩ = some (.int .u64 x) := hbk.cell 0
          have c1' : W0.cell? ⟨g, 1, none⟩ = some (.int .u64 y) := hbk.cell 1
          have HP2 := Lib.hid hp2
          have HBL := Lib.hid (show Below W0.heap.size W0 W0.drew from (Below.refl _ _).drew)
          clear hp2 hbk k0 k1 k2 k3 q1 q2 kc
          go_region_held3 (fun w' => w'.cell? ⟨g, 0, none⟩ = some (.int .u64 x) ∧ w'.cell? ⟨g, 1, none⟩ = some (.int .u64 y)) (go_keep) (first
            | (go_at_call 42; (with_reducible refine (D1.out _).mono ?_); rintro e wa ⟨rfl, qa⟩; have QA := Lib.hid (HBL.out.trans (qa.mono HBL.out.size)); have ka : wa.cell? ⟨g, 0, none⟩ = some (.int .u64 x) := (KB.out _ QA.out).cell 0; have la : wa.cell? ⟨g, 1, none⟩ = some (.int .u64 y) := (KB.out _ QA.out).cell 1; clear qa)
            | (go_at_call 42; (with_reducible refine (D2.out _).mono ?_); rintro e wb ⟨rfl, qb⟩; have QB := Lib.hid (QA.out.trans (qb.mono QA.out.size)); have kb : wb.cell? ⟨g, 0, none⟩ = some (.int .u64 x) := (KB.out _ QB.out).cell 0; have lb : wb.cell? ⟨g, 1, none⟩ = some (.int .u64 y) := (KB.out _ QB.out).cell 1; clear qb)
            | (go_at_call 42; (with_reducible refine (D3.out _).mono ?_); rintro e wc ⟨rfl, qc⟩; have QC := Lib.hid (QB.out.trans (qc.mono QB.out.size)); have kc : wc.cell? ⟨g, 0, none⟩ = some (.int .u64 x) := (KB.out _ QC.out).cell 0; have lc : wc.cell? ⟨g, 1, none⟩ = some (.int .u64 y) := (KB.out _ QC.out).cell 1; clear qc))
          have H9 := Lib.hid (HP2.out.below QC.out)
          clear ka la kb lb kc lc c0 c1' z1 r1 r2 r3 r4 r5 r6 r7
          go_wp2
          go_roundw
          case rel => exact ⟨j + 1, by omega, by go_num, ⟨v7, rfl, E7.out⟩, H9.out⟩
          case measure => simp [intOf]; omega
        · have hjc : j = ce.length := by have := HCN.out; omega
          have HT2 : Hid (t2 = bs (headT d ++ memsT d.mems (k + 1))) := Lib.hid (by
            rw [ht2, HMS.out, HPRE.out, hjc, List.take_length, List.append_assoc]
            rfl)
          clear ht2 ht2s hml hjm hR2 hjc
          go_wp2
          go_roundw
          case rel => exact ⟨k + 1, by omega, by go_num, ⟨t2, rfl, HT2.out⟩, HR2.out⟩
          case measure => simp [intOf]; omega
    · have hkn : k = d.mems.length := by have := N2.out; omega
      have hmt := memsT_len (mems := d.mems) (fun k hk => by
        obtain ⟨b, off, cap2, he, u, hcell, hpr⟩ := H.out.mems.at_ hk
        exact ⟨pairs_wf hpr, B7.out k hk⟩) (by rw [← N2.out]; omega) d.mems.length (Nat.le_refl _)
      obtain ⟨pre, hpre⟩ : ∃ pre, pre = headT d ++ memsT d.mems d.mems.length := ⟨_, rfl⟩
      have hpl : pre.length ≤ 1700000 := by
        rw [hpre, List.length_append]
        have := HH.out
        have : d.mems.length * 409600 ≤ 4 * 409600 := Nat.mul_le_mul_right _ (by rw [← N2.out]; omega)
        omega
      rw [hkn, ← hpre] at ht
      have HTX := Lib.hid ht
      have HPRE := Lib.hid hpre
      have HRW := Lib.hid hR
      clear ht hpre hR hkn hmt
      obtain ⟨wo, rfl⟩ : ∃ wo : World, wo = wr := ⟨_, rfl⟩
      go_wp2
      clear k0 k1 k2 k3
      go_loopw [4, 8] (fun s i wi => ∃ j : Nat, j ≤ n3 ∧ i = .int .i64 j ∧ (∃ t, s = .string t ∧ t = bs (pre ++ (d.ins.take j).flatMap cycT)) ∧ RPr w cs wi) (fun _ i _ => n3 - (intOf i).toNat)
      case atStart => exact ⟨0, Nat.zero_le _, rfl, ⟨t, rfl, by rw [HTX.out]; simp⟩, HRW.out⟩
      case round =>
        obtain ⟨j, hj, rfl, ⟨t2, rfl, ht2⟩, hR2⟩ := hrel
        obtain ⟨k0, k1, k2, k3⟩ := K.out _ hR2
        have hcl := cycs_len (fun k hk => Nat.le_trans (B6.out k hk) (by decide)) j (by have := N3.out; omega)
        have hjm : j * 5100 ≤ 4096 * 5100 := Nat.mul_le_mul_right _ (by omega)
        have ht2s : t2.size ≤ 100000000 := by rw [ht2, bs_size, List.length_append]; omega
        have HR2 := Lib.hid hR2
        by_cases hlj : (j : Int) < (n3 : Int)
        · have hjn : j < d.ins.length := by have := N3.out; omega
          obtain ⟨b, off, cap2, he, u, hcell, hpr⟩ := H.out.ins.at_ hjn
          injection he with e1 e2 e3
          subst e1
          have hc1 := cell_below hcell hR2.2
          rw [Nat.mul_one] at hc1
          have h6 := B6.out j hjn
          have hst := flat_step cycT [] hjn
          generalize d.ins.getD j [] = cy at *
          have T1 := r15_truths (hpr.below stays_bo hR2.2) (by omega)
          have hcl5 := truT_len cy (by omega)
          obtain ⟨s3, hs3⟩ : ∃ s, s = bs (truT cy) := ⟨_, rfl⟩
          have y3 : s3.size ≤ 5000 := by rw [hs3, bs_size]; exact hcl5
          rw [← hs3] at T1
          obtain ⟨v1, f1, w1', r1⟩ := cat2 (P := Tryd.prog) t2 (⟨#[99, 121, 99, 108, 101, 32]⟩ : ByteArray) 100000000 6 ht2s (by decide) (by omega)
          obtain ⟨v2, f2, w2', r2⟩ := cat2 (P := Tryd.prog) v1 s3 100000006 5000 (by omega) y3 (by omega)
          obtain ⟨v3, f3, w3', r3⟩ := cat2 (P := Tryd.prog) v2 (⟨#[10]⟩ : ByteArray) 100005006 1 (by omega) (by decide) (by omega)
          have E7 : Hid (v3 = bs (pre ++ (d.ins.take (j + 1)).flatMap cycT)) := Lib.hid (by
            have l0 : (⟨#[99, 121, 99, 108, 101, 32]⟩ : ByteArray) = bs [99, 121, 99, 108, 101, 32] := rfl
            have l2 : (⟨#[10]⟩ : ByteArray) = bs [10] := rfl
            rw [hst, f3, f2, f1, ht2, hs3, l0, l2]
            simp only [bs_app]
            congr 1
            simp [cycT, lineT, wordT])
          have HT1 := Lib.hid T1
          clear hcell hpr e2 e3 hst hcl hcl5 hs3 y3 T1 f1 f2 f3 w1' w2' w3' ht2 ht2s hjm hR2
          go_wp2_with fail
          refine HT1.out.mono ?_
          rintro e wx ⟨rfl, rfl⟩
          go_wp2
          go_roundw
          case rel => exact ⟨j + 1, by omega, by go_num, ⟨v3, rfl, E7.out⟩, HR2.out⟩
          case measure => simp [intOf]; omega
        · have hjn : j = d.ins.length := by have := N3.out; omega
          have D1 := Lib.hid (r15_dec bad (by omega) (by omega) wr)
          have g1 := bsT_size (n := bad) (by omega)
          obtain ⟨s1, hs1⟩ : ∃ s, s = bs (decT bad) := ⟨_, rfl⟩
          rw [← hs1] at D1 g1
          obtain ⟨v1, f1, w1', r1⟩ := cat2 (P := Tryd.prog) t2 (⟨#[98, 97, 100, 32]⟩ : ByteArray) 100000000 4 ht2s (by decide) (by omega)
          obtain ⟨v2, f2, w2', r2⟩ := cat2 (P := Tryd.prog) v1 s1 100000004 20 (by omega) g1 (by omega)
          obtain ⟨v3, f3, w3', r3⟩ := cat2 (P := Tryd.prog) v2 (⟨#[10]⟩ : ByteArray) 100000024 1 (by omega) (by decide) (by omega)
          have E7 : Hid (v3 = bs (printT d)) := Lib.hid (by
            have l0 : (⟨#[98, 97, 100, 32]⟩ : ByteArray) = bs [98, 97, 100, 32] := rfl
            have l2 : (⟨#[10]⟩ : ByteArray) = bs [10] := rfl
            have e1 : (d.ins.take j).flatMap cycT = d.ins.flatMap cycT := by rw [hjn, List.take_length]
            rw [f3, f2, f1, ht2, hs1, l0, l2, e1, HPRE.out, NB.out]
            simp only [bs_app]
            congr 1
            simp [printT, lineT, wordT])
          have HB := Lib.hid hR2.2
          clear hcl hjm hs1 f1 f2 f3 w1' w2' w3' ht2 ht2s hjn hR2
          go_wp2_with fail
          refine D1.out.mono ?_
          rintro e wx ⟨rfl, hb⟩
          have HB2 := Lib.hid (HB.out.trans (hb.mono HB.out.size))
          clear hb
          go_wp2
          go_ret2
          exact ⟨by rw [← E7.out]; rfl, HB2.out⟩
end Go.Proofs.YtojeomjabihieaaDoor
