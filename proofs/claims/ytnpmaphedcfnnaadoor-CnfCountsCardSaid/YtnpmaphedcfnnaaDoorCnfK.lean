/-
  Package cnf: Print, walked.
-/
import Derived.Test.YtnpmaphedcfnnaaDoorCnfJ
import Derived.Test.YtnpmaphedcfnnaaDoorText
namespace Go.Proofs.YtnpmaphedcfnnaaDoor
open Go.ChangeShapes Go.WideShapes Go.ChangeAt Go.RowKit
set_option linter.unusedVariables false
theorem Print_nil (w : World) : Calls Tryd.prog 23 #[.pointer none] w fun e w' => e = .returned (.string (bs [])) ∧ w = w' := by
  have e : bs [] = ⟨#[]⟩ := rfl
  rw [e]
  clear e
  go_enter Tryd.func23, Tryd.ntmps23
  go_wp2
  go_ret
  exact ⟨rfl, rfl⟩
def i64ok (n : Int) : Prop := -9223372036854775807 ≤ n ∧ n ≤ 9223372036854775807
theorem number_ {B b : Nat} {l : List UInt8} {w : World} (h : Bd B b l w) (ht : Tab w) (hBw : B ≤ w.heap.size) (n : Int) (hn : i64ok n) (c : UInt8) (hl : l.length ≤ 1000000000000) :
    Calls Tryd.prog 44 #[.int .i64 n, .string ⟨#[c]⟩, .pointer (some ⟨b, 0, none⟩)] w fun e w' => e = .returned (.tuple #[]) ∧ Bd B b (l ++ (Lib.itoa n ++ [c])) w' ∧ Below B w w' := by
  obtain ⟨h0, h1⟩ := hn
  have HI := Lib.hid (itoa_ n (by omega) h1 ht)
  have hle := itoa_len n (by omega) h1
  obtain ⟨s, hs⟩ : ∃ s, s = bs (Lib.itoa n) := ⟨_, rfl⟩
  have z1 : s.size ≤ 21 := by rw [hs, bs_size]; exact hle
  have z : s.size + (⟨#[c]⟩ : ByteArray).size ≤ 9223372036854775807 := by
    have : (⟨#[c]⟩ : ByteArray).size = 1 := rfl
    omega
  have hcat : s ++ ⟨#[c]⟩ = bs (Lib.itoa n ++ [c]) := by rw [hs]; exact bs_app _ [c]
  have hlen : (Lib.itoa n ++ [c]).length ≤ 22 := by simp; omega
  rw [← hs] at HI
  generalize Lib.itoa n ++ [c] = m at *
  have HB := Lib.hid h
  have HC := Lib.hid hcat
  clear hs hcat h ht hle h0 h1 z1
  go_enter Tryd.func44, Tryd.ntmps44
  go_wp2_with fail
  refine HI.out.mono ?_
  rintro e w1 ⟨rfl, hb1⟩
  have hw := (HB.out.below hb1).str m (by omega) (Nat.le_trans hBw hb1.size)
  rw [← HC.out] at hw
  have HW := Lib.hid hw
  have B1 := Lib.hid (hb1.mono hBw)
  clear hw hb1
  go_wp2_with fail
  refine HW.out.mono ?_
  rintro e w2 ⟨rfl, hd, hb2⟩
  have D2 := Lib.hid hd
  have B2 := Lib.hid (B1.out.trans hb2)
  clear hd hb2
  go_wp2
  go_returns
  exact ⟨rfl, D2.out, B2.out⟩
def litT (l : Int) : List UInt8 := Lib.itoa l ++ [32]
def clsT (c : List Int) : List UInt8 := c.flatMap litT ++ [48, 10]
def headT (vars : Int) (m : Nat) : List UInt8 := [112, 32, 99, 110, 102, 32] ++ (Lib.itoa vars ++ [32]) ++ (Lib.itoa m ++ [10])
def printT (vars : Int) (xss : List (List Int)) : List UInt8 := headT vars xss.length ++ xss.flatMap clsT
theorem itoa_0 : Lib.itoa 0 = [48] := by
  unfold Lib.itoa
  rw [if_neg (by decide), Lib.decDigits, dif_pos (by decide)]
  rfl
theorem flat_step {α β : Type} (f : α → List β) (d : α) {xs : List α} {k : Nat} (hk : k < xs.length) : (xs.take (k + 1)).flatMap f = (xs.take k).flatMap f ++ f (xs.getD k d) := by
  rw [List.take_succ_eq_append_getElem hk, List.flatMap_append]
  simp [List.getD, hk]
def Ok64 (c : List Int) : Prop := ∀ j, j < c.length → i64ok (c.getD j 0)
theorem lits_len {c : List Int} (h : Ok64 c) : ∀ j, j ≤ c.length → ((c.take j).flatMap litT).length ≤ j * 22
  | 0, _ => by simp
  | j + 1, hj => by
    rw [flat_step litT 0 (by omega), List.length_append, Nat.succ_mul]
    have := lits_len h j (by omega)
    have h2 := itoa_len (c.getD j 0) (by have := h j (by omega); unfold i64ok at this; omega) (h j (by omega)).2
    have : (litT (c.getD j 0)).length ≤ 22 := by simp [litT]; simp at h2; omega
    omega
theorem cls_len {xss : List (List Int)} (h : ∀ k, k < xss.length → Ok64 (xss.getD k []) ∧ (xss.getD k []).length ≤ 1000) : ∀ k, k ≤ xss.length → ((xss.take k).flatMap clsT).length ≤ k * 22002
  | 0, _ => by simp
  | k + 1, hk => by
    rw [flat_step clsT [] (by omega), List.length_append, Nat.succ_mul]
    have := cls_len h k (by omega)
    obtain ⟨h1, h2⟩ := h k (by omega)
    have h3 := lits_len h1 _ (Nat.le_refl _)
    rw [List.take_length] at h3
    have h4 : (xss.getD k []).length * 22 ≤ 1000 * 22 := Nat.mul_le_mul_right _ h2
    have : (clsT (xss.getD k [])).length ≤ 22002 := by unfold clsT; rw [List.length_append]; simp at h3 h4 ⊢; omega
    omega
theorem head_len {vars : Int} {m : Nat} (hv : i64ok vars) (hm : m ≤ 1000000) : (headT vars m).length ≤ 50 := by
  have h1 := itoa_len vars (by unfold i64ok at hv; omega) hv.2
  have h2 := itoa_len (m : Int) (by omega) (by omega)
  unfold headT
  simp
  omega
/-- Between two clauses. -/
def PrW (w : World) (vars : Int) (xss : List (List Int)) (k : Nat) (wr : World) : Prop := Bd w.heap.size w.heap.size (headT vars xss.length ++ (xss.take k).flatMap clsT) wr ∧ Below w.heap.size w wr
def PrW2 (w : World) (pre : List UInt8) (c : List Int) (j : Nat) (wr : World) : Prop := Bd w.heap.size w.heap.size (pre ++ (c.take j).flatMap litT) wr ∧ Below w.heap.size w wr
set_option maxHeartbeats 2000000 in
set_option maxRecDepth 100000 in
theorem Print_ {B : Nat} {w : World} {f : Nat} {vars : Int} {xss : List (List Int)} (h : FAt B w f vars xss) (ht : Tab w) (hv : i64ok vars) (hx : xss.length ≤ 1000) (hl : ∀ k, k < xss.length → Ok64 (xss.getD k []) ∧ (xss.getD k []).length ≤ 1000) :
    Calls Tryd.prog 23 #[.pointer (some ⟨f, 0, none⟩)] w fun e w' => e = .returned (.string (bs (printT vars xss))) ∧ Below w.heap.size w w' := by
  have hlen := cls_len hl
  have hhl := head_len hv (show xss.length ≤ 1000000 by omega)
  have hle := hlen _ (Nat.le_refl _)
  have hb0 := Bd.fresh w
  have ho0 : Below w.heap.size w (w.alloc (.cells #[.pointer none, .slice none 0 0] 77)) := (Below.refl _ w).alloc (Nat.le_refl _) _
  have HT := Lib.hid ht
  have HF := Lib.hid h
  have HLL := Lib.hid hl
  have HLEN := Lib.hid hlen
  have W1 := Lib.hid (hb0.str [112, 32, 99, 110, 102, 32] (by simp) (by simp))
  have O0 := Lib.hid ho0
  have eg : ∀ args w, (callFunc 44 args).run Tryd.prog w = .ok (.enter 44 args) w := enters_of Tryd.func44 (by kernel_rfl) rfl
  obtain ⟨vl, c0, c1, h2⟩ := h.read
  have hfl : f < w.heap.size := World.block_lt_of_cell? w _ c0
  obtain ⟨la, lc, hlv, -, -⟩ := h2.form
  obtain ⟨ln, hln⟩ : ∃ ln, ln = xss.length := ⟨_, rfl⟩
  rw [← hln] at hlv hx hhl hle
  subst hlv
  have HLN := Lib.hid hln
  have H2 := Lib.hid h2
  have HHL := Lib.hid hhl
  have HV := Lib.hid hv
  obtain ⟨q6, hq6⟩ : ∃ q6, q6 = bs [112, 32, 99, 110, 102, 32] := ⟨_, rfl⟩
  have e6 : q6 = ⟨#[112, 32, 99, 110, 102, 32]⟩ := hq6
  rw [← hq6, e6] at W1
  have RD : Hid (∀ wr, Below w.heap.size w wr → wr.cell? ⟨f, 0, none⟩ = some (.int .i64 vars) ∧ wr.cell? ⟨f, 1, none⟩ = some (.slice la ln lc)) := Lib.hid fun wr hb => ⟨(hb.cell (p := ⟨f, 0, none⟩) hfl).trans c0, (hb.cell (p := ⟨f, 1, none⟩) hfl).trans c1⟩
  clear h ht hl hlen hb0 ho0 hln h2 hhl hle hv e6 hq6 c0 c1
  have hsz : w.heap.size + 1 ≤ (w.alloc (.cells #[.pointer none, .slice none 0 0] 77)).heap.size := by simp
  go_enter Tryd.func23, Tryd.ntmps23
  go_wp2_with fail
  refine W1.out.mono ?_
  rintro e w1 ⟨rfl, hd1, hb1⟩
  have B1 := Lib.hid (O0.out.trans hb1)
  have D1 := Lib.hid hd1
  obtain ⟨r0, -⟩ := RD.out _ B1.out
  have N1 := Lib.hid (number_ (w := w1) hd1 (HT.out.below B1.out) B1.out.size vars HV.out 32 (by simp))
  clear hd1 hb1
  go_wp2_with fail
  refine N1.out.mono ?_
  rintro e w2 ⟨rfl, hd2, hb2⟩
  have B2 := Lib.hid (B1.out.trans hb2)
  obtain ⟨-, r1⟩ := RD.out _ B2.out
  have N2 := Lib.hid (number_ (w := w2) hd2 (HT.out.below B2.out) B2.out.size (ln : Int) ⟨by omega, by omega⟩ 10 (by
    have h2 := itoa_len vars (by have := HV.out; unfold i64ok at this; omega) HV.out.2
    simp; omega))
  clear hd2 hb2
  go_wp2_with fail
  refine N2.out.mono ?_
  rintro e w3 ⟨rfl, hd3, hb3⟩
  have B3 := Lib.hid (B2.out.trans hb3)
  obtain ⟨-, r2⟩ := RD.out _ B3.out
  have P3 : Hid (PrW w vars xss 0 w3) := Lib.hid ⟨by
    rw [List.take_zero, List.flatMap_nil, List.append_nil]
    unfold headT
    rw [← HLN.out]
    simpa [List.append_assoc] using hd3, B3.out⟩
  clear hd3 hb3
  go_wp2
  go_loopw [31] (fun i wr => ∃ k : Nat, k ≤ ln ∧ i = .int .i64 k ∧ PrW w vars xss k wr) (fun i _ => ln - (intOf i).toNat)
  case atStart => exact ⟨0, Nat.zero_le _, rfl, P3.out⟩
  case round =>
    obtain ⟨k, hk, rfl, hP⟩ := hrel
    by_cases hlt : (k : Int) < (ln : Int)
    · have hkn : k < xss.length := by have := HLN.out; omega
      obtain ⟨b, off, ua, uc, rfl, hcell0, hint⟩ := H2.out.row (Below.refl _ _) hkn
      have hcell := (hP.2.cell (p := ⟨b, off + k, none⟩) (World.block_lt_of_cell? w _ hcell0)).trans hcell0
      clear hcell0
      have hcl := HLEN.out k (by omega)
      have hst := flat_step clsT [] hkn
      obtain ⟨hok, hcn⟩ := HLL.out k hkn
      obtain ⟨pre, hpre⟩ : ∃ pre, pre = headT vars xss.length ++ (xss.take k).flatMap clsT := ⟨_, rfl⟩
      have hpl : pre.length ≤ 50 + 1000 * 22002 := by
        rw [hpre, List.length_append]
        have := HHL.out
        rw [HLN.out] at this
        have : k * 22002 ≤ 1000 * 22002 := Nat.mul_le_mul_right _ (by omega)
        omega
      have hP0 : PrW2 w pre (xss.getD k []) 0 wr := ⟨by rw [List.take_zero, List.flatMap_nil, List.append_nil, hpre]; exact hP.1, hP.2⟩
      generalize xss.getD k [] = c at *
      obtain ⟨cn, hcnn⟩ : ∃ cn, cn = c.length := ⟨_, rfl⟩
      rw [← hcnn] at hcell hcn hint
      have HP0 := Lib.hid hP0
      have HST := Lib.hid hst
      have HOK := Lib.hid hok
      have HPRE := Lib.hid hpre
      have HCN := Lib.hid hcnn
      have HI := Lib.hid hint
      have HPW := Lib.hid hP.2
      clear hcl hst hok hpre hP0 hcnn hP hint hkn
      obtain ⟨wo, rfl⟩ : ∃ wo : World, wo = wr := ⟨_, rfl⟩
      go_wp2
      go_loopw [37] (fun i wi => ∃ j : Nat, j ≤ cn ∧ i = .int .i64 j ∧ PrW2 w pre c j wi) (fun i _ => cn - (intOf i).toNat)
      case atStart => exact ⟨0, Nat.zero_le _, rfl, HP0.out⟩
      case round =>
        obtain ⟨j, hj, rfl, hP2⟩ := hrel
        by_cases hlj : (j : Int) < (cn : Int)
        · have hjc : j < c.length := by have := HCN.out; omega
          obtain ⟨xa, xc, hxe, -, -, -, hxx⟩ := HI.out
          injection hxe with g1 g2 g3
          subst g1
          obtain ⟨b2, off2, rfl, hcell2⟩ := ints_cells hxx hjc
          have q1 := hcell2 wr hP2.2
          have hls := lits_len HOK.out j (by omega)
          have hok := HOK.out j hjc
          have hjs := flat_step litT 0 hjc
          have hjm : j * 22 ≤ 1000 * 22 := Nat.mul_le_mul_right _ (by omega)
          generalize c.getD j 0 = y at q1 hok hjs
          have hN := number_ (w := wr) hP2.1 (HT.out.below hP2.2) hP2.2.size y hok 32 (by rw [List.length_append]; omega)
          have HN := Lib.hid hN
          have HJS := Lib.hid hjs
          have HB := Lib.hid hP2.2
          clear hxx hcell2 hls hok hjs hN hP2 hjc g2 g3 hjm
          go_wp2_with fail
          refine HN.out.mono ?_
          rintro e w4 ⟨rfl, hd4, hb4⟩
          have P4 : Hid (PrW2 w pre c (j + 1) w4) := Lib.hid ⟨by
            rw [HJS.out, ← List.append_assoc]
            exact hd4, HB.out.trans hb4⟩
          clear hd4 hb4
          go_wp2
          go_roundw
          case rel => exact ⟨j + 1, by omega, by go_num, P4.out⟩
          case measure => simp [intOf]; omega
        · have hjc : j = c.length := by have := HCN.out; omega
          have hls := lits_len HOK.out c.length (Nat.le_refl _)
          unfold PrW2 at hP2
          rw [hjc, List.take_length] at hP2
          rw [List.take_length] at hls
          have hN := number_ (w := wr) hP2.1 (HT.out.below hP2.2) hP2.2.size 0 ⟨by decide, by decide⟩ 10 (by
            rw [List.length_append]
            have : c.length * 22 ≤ 1000 * 22 := Nat.mul_le_mul_right _ (by rw [← HCN.out]; omega)
            omega)
          have HN := Lib.hid hN
          have HB := Lib.hid hP2.2
          clear hls hN hP2 hjc
          go_wp2_with fail
          refine HN.out.mono ?_
          rintro e w4 ⟨rfl, hd4, hb4⟩
          have P4 : Hid (PrW w vars xss (k + 1) w4) := Lib.hid ⟨by
            rw [HST.out, ← List.append_assoc, ← HPRE.out]
            unfold clsT
            rw [itoa_0] at hd4
            simpa [List.append_assoc] using hd4, HB.out.trans hb4⟩
          clear hd4 hb4
          go_wp2
          go_roundw
          case rel => exact ⟨k + 1, by omega, by go_num, P4.out⟩
          case measure => simp [intOf]; omega
    · have hkn : k = xss.length := by have := HLN.out; omega
      have hS := Tryd.Builder_String_any w.heap.size w.heap.size (headT vars xss.length ++ (xss.take k).flatMap clsT) wr hP.1 hP.2.size
      rw [hkn, List.take_length] at hS
      have HS : Hid (Calls Tryd.prog 47 #[.pointer (some ⟨w.heap.size, 0, none⟩)] wr fun e w' => e = .returned (.string (bs (printT vars xss))) ∧ Below w.heap.size wr w') := Lib.hid hS
      have HB := Lib.hid hP.2
      obtain ⟨s, hs⟩ : ∃ s, s = bs (printT vars xss) := ⟨_, rfl⟩
      rw [← hs] at HS
      have HSS := Lib.hid hs
      clear hS hP hkn hs
      go_wp2_with fail
      refine HS.out.mono ?_
      rintro e w4 ⟨rfl, hb4⟩
      have B4 := Lib.hid (HB.out.trans hb4)
      clear hb4
      go_wp2
      go_ret
      exact ⟨by rw [← HSS.out]; rfl, B4.out⟩
end Go.Proofs.YtnpmaphedcfnnaaDoor
