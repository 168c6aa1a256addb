/-
  Package cnf: Print, walked.
-/
import Derived.Test.YtnpmaphedcfnnaaDoorCnfJ
import Derived.Test.YtnpmaphedcfnnaaDoorText
namespace Go.Proofs.YtnpmaphedcfnnaaDoor
open Go.ChangeShapes Go.WideShapes Go.ChangeAt Go.RowKit
set_option linter.unusedVariables false
theorem Print_nil (w : World) : Calls Tryd.prog 23 #[.pointer none] w fun e w' => e = .returned (.string (bs [])) ∧ w = w' := by
  have e : bs [] = ⟨#[]⟩ := rfl
  rw [e]
  clear e
  go_enter Tryd.func23, Tryd.ntmps23
  go_wp2
  go_ret
  exact ⟨rfl, rfl⟩
def i64ok (n : Int) : Prop := -9223372036854775807 ≤ n ∧ n ≤ 9223372036854775807
theorem number_ {B b : Nat} {l : List UInt8} {w : World} (h : Bd B b l w) (ht : Tab w) (hBw : B ≤ w.heap.size) (n : Int) (hn : i64ok n) (c : UInt8) (hl : l.length ≤ 1000000000000) :
    Calls Tryd.prog 44 #[.int .i64 n, .string ⟨#[c]⟩, .pointer (some ⟨b, 0, none⟩)] w fun e w' => e = .returned (.tuple #[]) ∧ Bd B b (l ++ (Lib.itoa n ++ [c])) w' ∧ Below B w w' := by
  obtain ⟨h0, h1⟩ := hn
  have HI := Lib.hid (itoa_ n (by omega) h1 ht)
  have hle := itoa_len n (by omega) h1
  obtain ⟨s, hs⟩ : ∃ s, s = bs (Lib.itoa n) := ⟨_, rfl⟩
  have z1 : s.size ≤ 21 := by rw [hs, bs_size]; exact hle
  have z : s.size + (⟨#[c]⟩ : ByteArray).size ≤ 9223372036854775807 := by
    have : (⟨#[c]⟩ : ByteArray).size = 1 := rfl
    omega
  have hcat : s ++ ⟨#[c]⟩ = bs (Lib.itoa n ++ [c]) := by rw [hs]; exact bs_app _ [c]
  have hlen : (Lib.itoa n ++ [c]).length ≤ 22 := by simp; omega
  rw [← hs] at HI
  generalize Lib.itoa n ++ [c] = m at *
  have HB := Lib.hid h
  have HC := Lib.hid hcat
  clear hs hcat h ht hle h0 h1 z1
  go_enter Tryd.func44, Tryd.ntmps44
  go_wp2_with fail
  refine HI.out.mono ?_
  rintro e w1 ⟨rfl, hb1⟩
  have hw := (HB.out.below hb1).str m (by omega) (Nat.le_trans hBw hb1.size)
  rw [← HC.out] at hw
  have HW := Lib.hid hw
  have B1 := Lib.hid (hb1.mono hBw)
  clear hw hb1
  go_wp2_with fail
  refine HW.out.mono ?_
  rintro e w2 ⟨rfl, hd, hb2⟩
  have D2 := Lib.hid hd
  have B2 := Lib.hid (B1.out.trans hb2)
  clear hd hb2
  go_wp2
  go_returns
  exact ⟨rfl, D2.out, B2.out⟩
def litT (l : Int) : List UInt8 := Lib.itoa l ++ [32]
def clsT (c : List Int) : List UInt8 := c.flatMap litT ++ [48, 10]
def headT (vars : Int) (m : Nat) : List UInt8 := [112, 32, 99, 110, 102, 32] ++ (Lib.itoa vars ++ [32]) ++ (Lib.itoa m ++ [10])
def printT (vars : Int) (xss : List (List Int)) : List UInt8 := headT vars xss.length ++ xss.flatMap clsT
theorem itoa_0 : Lib.itoa 0 = [48] := by
  unfold Lib.itoa
  rw [if_neg (by decide), Lib.decDigits, dif_pos (by decide)]
  rfl
theorem flat_step {α β : Type} (f : α → List β) (d : α) {xs : List α} {k : Nat} (hk : k < xs.length) : (xs.take (k + 1)).flatMap f = (xs.take k).flatMap f ++ f (xs.getD k d) := by
  rw [List.take_succ_eq_append_getElem hk, List.flatMap_append]
  simp [List.getD, hk]
def Ok64 (c : List Int) : Prop := ∀ j, j < c.length → i64ok (c.getD j 0)
theorem lits_len {c : List Int} (h : Ok64 c) : ∀ j, j ≤ c.length → ((c.take j).flatMap litT).length ≤ j * 22
  | 0, _ => by simp
  | j + 1, hj => by
    rw [flat_step litT 0 (by omega), List.length_append, Nat.succ_mul]
    have := lits_len h j (by omega)
    have h2 := itoa_len (c.getD j 0) (by have := h j (by omega); unfold i64ok at this; omega) (h j (by omega)).2
    have : (litT (c.getD j 0)).length ≤ 22 := by simp [litT]; simp at h2; omega
    omega
theorem cls_len {xss : List (List Int)} (h : ∀ k, k < xss.length → Ok64 (xss.getD k []) ∧ (xss.getD k []).length ≤ 1000) : ∀ k, k ≤ xss.length → ((xss.take k).flatMap clsT).length ≤ k * 22002
  | 0, _ => by simp
  | k + 1, hk => by
    rw [flat_step clsT [] (by omega), List.length_append, Nat.succ_mul]
    have := cls_len h k (by omega)
    obtain ⟨h1, h2⟩ := h k (by omega)
    have h3 := lits_len h1 _ (Nat.le_refl _)
    rw [List.take_length] at h3
    have h4 : (xss.getD k []).length * 22 ≤ 1000 * 22 := Nat.mul_le_mul_right _ h2
    have : (clsT (xss.getD k [])).length ≤ 22002 := by unfold clsT; rw [List.length_append]; simp at h3 h4 ⊢; omega
    omega
theorem head_len {vars : Int} {m : Nat} (hv : i64ok vars) (hm : m ≤ 1000000) : (headT vars m).length ≤ 50 := by
  have h1 := itoa_len vars (by unfold i64ok at hv; omega) hv.2
  have h2 := itoa_len (m : Int) (by omega) (by omega)
  unfold headT
  simp
  omega
/-- Between two clauses. -/
def PrW (w : World) (vars : Int) (xss : List (List Int)) (k : Nat) (wr : World) : Prop := Bd w.heap.size w.heap.size (headT vars xss.length ++ (xss.take k).flatMap clsT) wr ∧ Below w.heap.size w wr
def PrW2 (w : World) (pre : List UInt8) (c : List Int) (j : Nat) (wr : World) : Prop := Bd w.heap.size w.heap.size (pre ++ (c.take j).flatMap litT) wr ∧ Below w.heap.size w wr
set_option maxHeartbeats 2000000 in
set_option maxRecDepth 100000 in
theorem Print_ {B : Nat} {w : World} {f : Nat} {vars : Int} {xss : List (List Int)} (h : FAt B w f vars xss) (ht : Tab w) (hv : i64ok vars) (hx : xss.length ≤ 1000) (hl : ∀ k, k < xss.length → Ok64 (xss.getD k []) ∧ (xss.getD k []).length ≤ 1000) :
    Calls Tryd.prog 23 #[.pointer (some ⟨f, 0, none⟩)] w fun e w' => e = .returned (.string (bs (printT vars xss))) ∧ Below w.heap.size w w' := by
  have hlen := cls_len hl
  have hhl := head_len hv (show xss.length ≤ 1000000 by omega)
  have hle := hlen _ (Nat.le_refl _)
  have hb0 := Bd.fresh w
  have ho0 : Below w.heap.size w (w.alloc (.cells #[.pointer none, .slice none 0 0] 77)) := (Below.refl _ w).alloc (Nat.le_refl _) _
  have HT := Lib.hid ht
  have HF := Lib.hid h
  have HLL := Lib.hid hl
  have HLEN := Lib.hid hlen
  have W1 := Lib.hid (hb0.str [112, 32, 99, 110, 102, 32] (by simp) (by simp))
  have O0 := Lib.hid ho0
  have eg : ∀ args w, (callFunc 44 args).run Tryd.prog w = .ok (.enter 44 args) w := enters_of Tryd.func44 (by kernel_rfl) rfl
  obtain ⟨vl, c0, c1, h2⟩ := h.read
  have hfl : f < w.heap.size := World.block_lt_of_cell? w _ c0
  obtain ⟨la, lc, hlv, -, -⟩ := h2.form
  obtain ⟨ln, hln⟩ : ∃ ln, ln = xss.length := ⟨_, rfl⟩
  rw [← hln] at hlv hx hhl hle
  subst hlv
  have HLN := Lib.hid hln
  have H2 := Lib.hid h2
  have HHL := Lib.hid hhl
  have HV := Lib.hid hv
  obtain ⟨q6, hq6⟩ : ∃ q6, q6 = bs [112, 32, 99, 110, 102, 32] := ⟨_, rfl⟩
  have e6 : q6 = ⟨#[112, 32, 99, 110, 102, 32]⟩ := hq6
  rw [← hq6, e6] at W1
  have RD : Hid (∀ wr, Below w.heap.size w wr → wr.cell? ⟨f, 0, none⟩ = some (.int .i64 vars) ∧ wr.cell? ⟨f, 1, none⟩ = some (.slice la ln lc)) := Lib.hid fun wr hb => ⟨(hb.cell (p := ⟨f, 0, none⟩) hfl).trans c0, (hb.cell (p := ⟨f, 1, none⟩) hfl).trans c1⟩
  clear h ht hl hlen hb0 ho0 hln h2 hhl hle hv e6 hq6 c0 c1
  have hsz : w.heap.size + 1 ≤ (w.alloc (.cells #[.pointer none, .slice none 0 0] 77)).heap.size := by simp
  go_enter Tryd.func23, Tryd.ntmps23
  go_wp2_with fail
  refine W1.out.mono ?_
  rintro e w1 ⟨rfl, hd1, hb1⟩
  have B1 := Lib.hid (O0.out.trans hb1)
  have D1 := Lib.hid hd1
  obtain ⟨r0, -⟩ := RD.out _ B1.out
  have N1 := Lib.hid (number_ (w := w1) hd1 (HT.out.below B1.out) B1.out.size vars HV.out 32 (by simp))
  clear hd1 hb1
  go_wp2_with fail
  refine N1.out.mono ?_
  rintro e w2 ⟨rfl, hd2, hb2⟩
  have B2 := Lib.hid (B1.out.trans hb2)
  obtain ⟨-, r1⟩ := RD.out _ B2.out
  have N2 := Lib.hid (number_ (w := w2) hd2 (HT.out.below B2.out) B2.out.size (ln : Int) ⟨by omega, by omega⟩ 10 (by
    have h2 := itoa_len vars (by have := HV.out; unfold i64ok at this; omega) HV.out.2
    simp; omega))
  clear hd2 hb2
  go_wp2_with fail
  refine N2.out.mono ?_
  rintro e w3 ⟨rfl, hd3, hb3⟩
  have B3 := Lib.hid (B2.out.trans hb3)
  obtain ⟨-, r2⟩ := RD.out _ B3.out
  have P3 : Hid (PrW w vars xss 0 w3) := Lib.hid ⟨by
    rw [List.take_zero, List.flatMap_nil, List.append_nil]
    unfold headT
    rw [← HLN.out]
    simpa [List.append_assoc] using hd3, B3.out⟩
  clear hd3 hb3
  go_wp2
  go_loopw [31] (fun i wr => ∃ k : Nat, k ≤ ln ∧ i = .int .i64 k ∧ PrW w vars xss k wr) (fun i _ => ln - (intOf i).toNat)
  case atStart => exact ⟨0, Nat.zero_le _, rfl, P3.out⟩
  case round =>
    obtain ⟨k, hk, rfl, hP⟩ := hrel
    by_cases hlt : (k : Int) < (ln : Int)
    · have hkn : k < xss.length := by have := HLN.out; omega
      obtain ⟨b, off, ua, uc, rfl, hcell0, hint⟩ := H2.out.row (Below.refl _ _) hkn
      have hcell := (hP.2.cell (p := ⟨b, off + k, none⟩) (World.block_lt_of_cell? w _ hcell0)).trans hcell0
      clear hcell0
      have hcl := HLEN.out k (by omega)
      have hst := flat_step clsT [] hkn
      obtain ⟨hok, hcn⟩ := HLL.out k hkn
      obtain ⟨pre, hpre⟩ : ∃ pre, pre = headT vars xss.length ++ (xss.take k).flatMap clsT := ⟨_, rfl⟩
      have hpl : pre.length ≤ 50 + 1000 * 22002 := by
        rw [hpre, List.length_append]
        have := HHL.out
        rw [HLN.out] at this
        have : k * 22002 ≤ 1000 * 22002 := Nat.mul_le_mul_right _ (by omega)
        omega
      have hP0 : PrW2 w pre (xss.getD k []) 0 wr := ⟨by rw [List.take_zero, List.flatMap_nil, List.append_nil, hpre]; exact hP.1, hP.2⟩
      generalize xss.getD k [] = c at *
      obtain ⟨cn, hcnn⟩ : ∃ cn, cn = c.length := ⟨_, rfl⟩
      rw [← hcnn] at hcell hcn hint
      have HP0 := Lib.hid hP0
      have HST := Lib.hid hst
      have HOK := Lib.hid hok
      have HPRE := Lib.hid hpre
      have HCN := Lib.hid hcnn
      have HI := Lib.hid hint
      have HPW := Lib.hid hP.2
      clear hcl hst hok hpre hP0 hcnn hP hint hkn
      obtain ⟨wo, rfl⟩ : ∃ wo : World, wo = wr := ⟨_, rfl⟩
      go_wp2
      go_loopw [37] (fun i wi => ∃ j : Nat, j ≤ cn ∧ i = .int .i64 j ∧ PrW2 w pre c j wi) (fun i _ => cn - (intOf i).toNat)
      case atStart => exact ⟨0, Nat.zero_le _, rfl, HP0.out⟩
      case round =>
        obtain ⟨j, hj, rfl, hP2⟩ := hrel
        by_cases hlj : (j : Int) < (cn : Int)
        · have hjc : j < c.length := by have := HCN.out; omega
          obtain ⟨xa, xc, hxe, -, -, -, hxx⟩ := HI.out
          injection hxe with g1 g2 g3
          subst g1
          obtain ⟨b2, off2, rfl, hcell2⟩ := ints_cells hxx hjc
          have q1 := hcell2 wr hP2.2
          have hls := lits_len HOK.out j (by omega)
          have hok := HOK.out j hjc
          have hjs := flat_step litT 0 hjc
          have hjm : j * 22 ≤ 1000 * 22 := Nat.mul_le_mul_right _ (by omega)
          generalize c.getD j 0 = y at q1 hok hjs
          have hN := number_ (w := wr) hP2.1 (HT.out.below hP2.2) hP2.2.size y hok 32 (by rw [List.length_append]; omega)
          have HN := Lib.hid hN
          have HJS := Lib.hid hjs
          have HB := Lib.hid hP2.2
          clear hxx hcell2 hls hok hjs hN hP2 hjc g2 g3 hjm
          go_wp2_with fail
          refine HN.out.mono ?_
          rintro e w4 ⟨rfl, hd4, hb4⟩
          have P4 : Hid (PrW2 w pre c (j + 1) w4) := Lib.hid ⟨by
            rw [HJS.out, ← List.append_assoc]
            exact hd4, HB.out.trans hb4⟩
          clear hd4 hb4
          go_wp2
          go_roundw
          case rel => exact ⟨j + 1, by omega, by go_num, P4.out⟩
          case measure => simp [intOf]; omega
        · have hjc : j = c.length := by have := HCN.out; omega
          have hls := lits_len HOK.out c.length (Nat.le_refl _)
          unfold PrW2 at hP2
          rw [hjc, List.take_length] at hP2
          rw [List.take_length] at hls
          have hN := number_ (w := wr) hP2.1 (HT.out.below hP2.2) hP2.2.size 0 ⟨by decide, by decide⟩ 10 (by
            rw [List.length_append]
            have : c.length * 22 ≤ 1000 * 22 := Nat.mul_le_mul_right _ (by rw [← HCN.out]; omega)
            omega)
          have HN := Lib.hid hN
          have HB := Lib.hid hP2.2
          clear hls hN hP2 hjc
          go_wp2_with fail
          refine HN.out.mono ?_
          rintro e w4 ⟨rfl, hd4, hb4⟩
          have P4 : Hid (PrW w vars xss (k + 1) w4) := Lib.hid ⟨by
            rw [HST.out, ← List.append_assoc, ← HPRE.out]
            unfold clsT
            rw [itoa_0] at hd4
            simpa [List.append_assoc] using hd4, HB.out.trans hb4⟩
          clear hd4 hb4
          go_wp2
          go_roundw
          case rel => exact ⟨k + 1, by omega, by go_num, P4.out⟩
          case measure => simp [intOf]; omega
    · have hkn : k = xss.length := by have := HLN.out; omega
      have hS := Tryd.Builder_String_any w.heap.size w.heap.size (headT vars xss.length ++ (xss.take k).flatMap clsT) wr hP.1 hP.2.size
      rw [hkn, List.take_length] at hS
      have HS : Hid (Calls Tryd.prog 47 #[.pointer (some ⟨w.heap.size, 0, none⟩)] wr fun e w' => e = .returned (.string (bs (printT vars xss))) ∧ Below w.heap.size wr w') := Lib.hid hS
      have HB := Lib.hid hP.2
      obtain ⟨s, hs⟩ : ∃ s, s = bs (printT vars xss) := ⟨_, rfl⟩
      rw [← hs] at HS
      have HSS := Lib.hid hs
      clear hS hP hkn hs
      go_wp2_with fail
      refine HS.out.mono ?_
      rintro e w4 ⟨rfl, hb4⟩
      have B4 := Lib.hid (HB.out.trans hb4)
      clear hb4
      go_wp2
      go_ret
      exact ⟨by rw [← HSS.out]; rfl, B4.out⟩
end Go.Proofs.YtnpmaphedcfnnaaDoor
/-
  The reference's Print, walked.
-/
namespace Go.Proofs.YtnpmaphedcfnnaaDoor
open Go.ChangeShapes Go.WideShapes Go.ChangeAt Go.RowKit
set_option linter.unusedVariables false
theorem signed_any (n : Int) (h : i64ok n) (w : World) : Calls Tryd.prog 48 #[.int .i64 n] w fun e w' => e = .returned (.string (bs (Lib.itoa n))) ∧ Below w.heap.size w w' := signed_ n h.1 h.2 w
theorem run_cat {P : Program} (W : World) (a b c : ByteArray) (h : a.size + b.size ≤ 9223372036854775807) (hc : c = a ++ b) : (Op.stringOp .add a b).run P W = .ok (.string c) W := by
  rw [hc]
  exact run_string_add_sum W a b h
set_option maxHeartbeats 2000000 in
set_option maxRecDepth 100000 in
theorem r18_Print {w : World} {vl : Value} {vars : Int} {xss : List (List Int)} (h2 : IntsS w vl xss) (hv : i64ok vars) (hx : xss.length ≤ 1000) (hl : ∀ k, k < xss.length → Ok64 (xss.getD k []) ∧ (xss.getD k []).length ≤ 1000) :
    Calls Tryd.prog 24 #[.agg #[.int .i64 vars, vl]] w fun e w' => e = .returned (.string (bs (printT vars xss))) ∧ Below w.heap.size w w' := by
  have hlen := cls_len hl
  obtain ⟨la, lc, hlv, -, -⟩ := h2.form
  obtain ⟨ln, hln⟩ : ∃ ln, ln = xss.length := ⟨_, rfl⟩
  rw [← hln] at hlv hx
  subst hlv
  have hS1 := signed_any vars hv
  have hS2 := signed_any (ln : Int) ⟨by omega, by omega⟩
  have hz1 : (bs (Lib.itoa vars)).size ≤ 21 := by rw [bs_size]; exact itoa_len vars (by unfold i64ok at hv; omega) hv.2
  have hz2 : (bs (Lib.itoa (ln : Int))).size ≤ 21 := by rw [bs_size]; exact itoa_len _ (by omega) (by omega)
  have hcat : (⟨#[112, 32, 99, 110, 102, 32]⟩ : ByteArray) ++ bs (Lib.itoa vars) ++ ⟨#[32]⟩ ++ bs (Lib.itoa (ln : Int)) ++ ⟨#[10]⟩ = bs (headT vars xss.length) := by
    have e1 : (⟨#[112, 32, 99, 110, 102, 32]⟩ : ByteArray) = bs [112, 32, 99, 110, 102, 32] := rfl
    have e2 : (⟨#[32]⟩ : ByteArray) = bs [32] := rfl
    have e3 : (⟨#[10]⟩ : ByteArray) = bs [10] := rfl
    rw [e1, e2, e3, bs_app, bs_app, bs_app, bs_app, ← hln]
    unfold headT
    simp [List.append_assoc]
  generalize bs (Lib.itoa vars) = s1 at *
  generalize bs (Lib.itoa (ln : Int)) = s2 at *
  have q1 : (⟨#[112, 32, 99, 110, 102, 32]⟩ : ByteArray).size = 6 := rfl
  have q2 : (⟨#[32]⟩ : ByteArray).size = 1 := rfl
  have q3 : (⟨#[10]⟩ : ByteArray).size = 1 := rfl
  obtain ⟨p1, hp1⟩ : ∃ p1, p1 = (⟨#[112, 32, 99, 110, 102, 32]⟩ : ByteArray) ++ s1 := ⟨_, rfl⟩
  obtain ⟨p2, hp2⟩ : ∃ p2, p2 = p1 ++ (⟨#[32]⟩ : ByteArray) := ⟨_, rfl⟩
  obtain ⟨p3, hp3⟩ : ∃ p3, p3 = p2 ++ s2 := ⟨_, rfl⟩
  obtain ⟨p4, hp4⟩ : ∃ p4, p4 = p3 ++ (⟨#[10]⟩ : ByteArray) := ⟨_, rfl⟩
  have y1 : p1.size = 6 + s1.size := by rw [hp1, ByteArray.size_append, q1]
  have y2 : p2.size = p1.size + 1 := by rw [hp2, ByteArray.size_append, q2]
  have y3 : p3.size = p2.size + s2.size := by rw [hp3, ByteArray.size_append]
  have r1 := fun W => run_cat (P := Tryd.prog) W (⟨#[112, 32, 99, 110, 102, 32]⟩ : ByteArray) s1 p1 (by omega) hp1
  have r2 := fun W => run_cat (P := Tryd.prog) W p1 (⟨#[32]⟩ : ByteArray) p2 (by omega) hp2
  have r3 := fun W => run_cat (P := Tryd.prog) W p2 s2 p3 (by omega) hp3
  have r4 := fun W => run_cat (P := Tryd.prog) W p3 (⟨#[10]⟩ : ByteArray) p4 (by omega) hp4
  rw [← hp1, ← hp2, ← hp3, ← hp4] at hcat
  clear hp1 hp2 hp3 hp4 y1 y2 y3
  have S1 := Lib.hid hS1
  have S2 := Lib.hid hS2
  have HC := Lib.hid hcat
  have K0 : Hid (Blk (w.alloc (.cells #[.int .i64 vars, .slice la ln lc] 31)) w.heap.size 31 #[.int .i64 vars, .slice la ln lc]) := Lib.hid (Blk.new w 31 _)
  have B0 : Hid (Below w.heap.size w (w.alloc (.cells #[.int .i64 vars, .slice la ln lc] 31))) := Lib.hid ((Below.refl _ _).alloc (Nat.le_refl _) _)
  have HLL := Lib.hid hl
  have HLEN := Lib.hid hlen
  have HLN := Lib.hid hln
  have H2 := Lib.hid h2
  have HV := Lib.hid hv
  clear hS1 hS2 hcat hl hlen hln h2 hv q1 q2 q3 hz1 hz2
  go_enter Tryd.func24, Tryd.ntmps24
  go_wp2_with fail
  go_region_held3 (fun w' => w'.cell? ⟨w.heap.size, 0, none⟩ = some (.int .i64 vars) ∧ w'.cell? ⟨w.heap.size, 1, none⟩ = some (.slice la ln lc)) (go_keep) (first
    | (go_at_call 48; (with_reducible refine (S1.out _).mono ?_); rintro e w2 ⟨rfl, hb2⟩; have K2 := Lib.hid (K0.out.drew.below hb2 K0.out.lt); have B2 := Lib.hid ((B0.out.drew).trans (hb2.mono B0.out.size)); have c0 : w2.cell? ⟨w.heap.size, 0, none⟩ = some (.int .i64 vars) := K2.out.cell 0; have c1 : w2.cell? ⟨w.heap.size, 1, none⟩ = some (.slice la ln lc) := K2.out.cell 1; clear hb2)
    | (go_at_call 48; (with_reducible refine (S2.out _).mono ?_); rintro e w3 ⟨rfl, hb3⟩; have K3 := Lib.hid (K2.out.below hb3 K2.out.lt); have B3 := Lib.hid (B2.out.trans (hb3.mono B2.out.size)); have d0 : w3.cell? ⟨w.heap.size, 0, none⟩ = some (.int .i64 vars) := K3.out.cell 0; have d1 : w3.cell? ⟨w.heap.size, 1, none⟩ = some (.slice la ln lc) := K3.out.cell 1; clear hb3))
  clear c0 c1 d0 d1 r1 r2 r3 r4
  go_wp2
  go_loopw [3, 4] (fun s i wr => ∃ k : Nat, k ≤ ln ∧ i = .int .i64 k ∧ (∃ t, s = .string t ∧ t = bs (headT vars xss.length ++ (xss.take k).flatMap clsT)) ∧ Blk wr w.heap.size 31 #[.int .i64 vars, .slice la ln lc] ∧ Below w.heap.size w wr) (fun _ i _ => ln - (intOf i).toNat)
  case atStart => exact ⟨0, Nat.zero_le _, rfl, ⟨p4, rfl, by rw [HC.out]; simp⟩, K3.out, B3.out⟩
  case round =>
    obtain ⟨k, hk, rfl, ⟨t, rfl, ht⟩, hblk, hold⟩ := hrel
    have c0 : wr.cell? ⟨w.heap.size, 0, none⟩ = some (.int .i64 vars) := hblk.cell 0
    have c1 : wr.cell? ⟨w.heap.size, 1, none⟩ = some (.slice la ln lc) := hblk.cell 1
    by_cases hlt : (k : Int) < (ln : Int)
    · have hkn : k < xss.length := by have := HLN.out; omega
      obtain ⟨b, off, ua, uc, rfl, hcell, hint⟩ := H2.out.row (Below.refl _ _) hkn
      have hst := flat_step clsT [] hkn
      obtain ⟨hok, hcn⟩ := HLL.out k hkn
      have hcl := HLEN.out k (by omega)
      have hhl := head_len HV.out (show xss.length ≤ 1000000 by have := HLN.out; omega)
      obtain ⟨pre, hpre⟩ : ∃ pre, pre = headT vars xss.length ++ (xss.take k).flatMap clsT := ⟨_, rfl⟩
      have hpl : pre.length ≤ 50 + 1000 * 22002 := by
        rw [hpre, List.length_append]
        have : k * 22002 ≤ 1000 * 22002 := Nat.mul_le_mul_right _ (by omega)
        omega
      rw [← hpre] at ht
      have hcw := (hold.cell (p := ⟨b, off + k, none⟩) (World.block_lt_of_cell? w _ hcell)).trans hcell
      have hrc : Hid (∀ wx, Below w.heap.size w wx → wx.cell? ⟨b, off + k, none⟩ = some (.slice ua (xss.getD k []).length uc)) := Lib.hid fun wx hb => (hb.cell (p := ⟨b, off + k, none⟩) (World.block_lt_of_cell? w _ hcell)).trans hcell
      generalize xss.getD k [] = c at *
      obtain ⟨cn, hcnn⟩ : ∃ cn, cn = c.length := ⟨_, rfl⟩
      rw [← hcnn] at hcw hcn hint hrc
      have HST := Lib.hid hst
      have HOK := Lib.hid hok
      have HPRE := Lib.hid hpre
      have HCN := Lib.hid hcnn
      have HI := Lib.hid hint
      have HT := Lib.hid ht
      have HBL := Lib.hid hblk
      have HOL := Lib.hid hold
      clear hcl hst hok hpre hcnn hint hkn hcell ht hblk hold hhl
      obtain ⟨wo, rfl⟩ : ∃ wo : World, wo = wr := ⟨_, rfl⟩
      go_wp2
      go_loopw [3, 5] (fun s i wi => ∃ j : Nat, j ≤ cn ∧ i = .int .i64 j ∧ (∃ t, s = .string t ∧ t = bs (pre ++ (c.take j).flatMap litT)) ∧ Blk wi w.heap.size 31 #[.int .i64 vars, .slice (some ⟨b, off, none⟩) ln lc] ∧ Below w.heap.size w wi) (fun _ i _ => cn - (intOf i).toNat)
      case atStart => exact ⟨0, Nat.zero_le _, rfl, ⟨t, rfl, by rw [HT.out]; simp⟩, HBL.out, HOL.out⟩
      case round =>
        obtain ⟨j, hj, rfl, ⟨t2, rfl, ht2⟩, hblk2, hold2⟩ := hrel
        have c1' : wr.cell? ⟨w.heap.size, 1, none⟩ = some (.slice (some ⟨b, off, none⟩) ln lc) := hblk2.cell 1
        have c2' := hrc.out wr hold2
        have hls := lits_len HOK.out j (by have := HCN.out; omega)
        have hjm : j * 22 ≤ 1000 * 22 := Nat.mul_le_mul_right _ (by omega)
        have ht2s : t2.size ≤ 30000000 := by rw [ht2, bs_size, List.length_append]; omega
        by_cases hlj : (j : Int) < (cn : Int)
        · have hjc : j < c.length := by have := HCN.out; omega
          obtain ⟨xa, xc, hxe, -, -, -, hxx⟩ := HI.out
          injection hxe with g1 g2 g3
          subst g1
          obtain ⟨b2, off2, rfl, hcell2⟩ := ints_cells hxx hjc
          have q1 := hcell2 wr hold2
          have hok := HOK.out j hjc
          have hjs := flat_step litT 0 hjc
          generalize c.getD j 0 = y at q1 hok hjs
          have hS := signed_any y hok wr
          have hz : (bs (Lib.itoa y)).size ≤ 21 := by rw [bs_size]; exact itoa_len y (by unfold i64ok at hok; omega) hok.2
          obtain ⟨s1, hs1⟩ : ∃ s1, s1 = bs (Lib.itoa y) := ⟨_, rfl⟩
          rw [← hs1] at hS hz
          obtain ⟨p1, hp1⟩ : ∃ p1, p1 = t2 ++ s1 := ⟨_, rfl⟩
          obtain ⟨p2, hp2⟩ : ∃ p2, p2 = p1 ++ (⟨#[32]⟩ : ByteArray) := ⟨_, rfl⟩
          have y1 : p1.size = t2.size + s1.size := by rw [hp1, ByteArray.size_append]
          have y0 : (⟨#[32]⟩ : ByteArray).size = 1 := rfl
          have r1 := fun W => run_cat (P := Tryd.prog) W t2 s1 p1 (by omega) hp1
          have r2 := fun W => run_cat (P := Tryd.prog) W p1 (⟨#[32]⟩ : ByteArray) p2 (by omega) hp2
          have HP2 : Hid (p2 = bs (pre ++ (c.take (j + 1)).flatMap litT)) := Lib.hid (by
            have e2 : (⟨#[32]⟩ : ByteArray) = bs [32] := rfl
            rw [hp2, hp1, ht2, hs1, e2, bs_app, bs_app, hjs]
            simp [litT, List.append_assoc])
          have HS := Lib.hid hS
          have HB := Lib.hid hold2
          have HK := Lib.hid hblk2
          clear hxx hcell2 hls hok hjs hS hjc g2 g3 hjm hz hs1 hp1 hp2 y1 y0 hold2 hblk2 ht2
          go_wp2_with fail
          refine HS.out.mono ?_
          rintro e w4 ⟨rfl, hb4⟩
          have B4 := Lib.hid (HB.out.trans (hb4.mono HB.out.size))
          have K4 := Lib.hid (HK.out.below hb4 HK.out.lt)
          clear hb4
          go_wp2
          go_roundw
          case rel => exact ⟨j + 1, by omega, by go_num, ⟨p2, rfl, HP2.out⟩, K4.out, B4.out⟩
          case measure => simp [intOf]; omega
        · have hjc : j = c.length := by have := HCN.out; omega
          obtain ⟨p1, hp1⟩ : ∃ p1, p1 = t2 ++ (⟨#[48, 10]⟩ : ByteArray) := ⟨_, rfl⟩
          have y0 : (⟨#[48, 10]⟩ : ByteArray).size = 2 := rfl
          have r1 := fun W => run_cat (P := Tryd.prog) W t2 (⟨#[48, 10]⟩ : ByteArray) p1 (by omega) hp1
          have HP1 : Hid (p1 = bs (headT vars xss.length ++ (xss.take (k + 1)).flatMap clsT)) := Lib.hid (by
            have e2 : (⟨#[48, 10]⟩ : ByteArray) = bs [48, 10] := rfl
            rw [hp1, ht2, e2, bs_app, HST.out, hjc, List.take_length, HPRE.out]
            unfold clsT
            simp [List.append_assoc])
          have HB := Lib.hid hold2
          have HK := Lib.hid hblk2
          clear hls hjc hjm hp1 y0 hold2 hblk2 ht2
          go_wp2
          go_roundw
          case rel => exact ⟨k + 1, by omega, by go_num, ⟨p1, rfl, HP1.out⟩, HK.out, HB.out⟩
          case measure => simp [intOf]; omega
    · have hkn : k = xss.length := by have := HLN.out; omega
      have HTT : Hid (t = bs (printT vars xss)) := Lib.hid (by rw [ht, hkn, List.take_length]; rfl)
      have HOL := Lib.hid hold
      clear ht hkn hblk hold
      go_wp2
      go_ret
      exact ⟨by rw [← HTT.out]; rfl, HOL.out⟩
end Go.Proofs.YtnpmaphedcfnnaaDoor
