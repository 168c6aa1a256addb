/-
  The reference's Count, walked.
-/
import Derived.Test.YtkofhilgehhopaaCnfI
namespace Go.Proofs.Ytkofhilgehhopaa
open Go.ChangeShapes Go.WideShapes Go.ChangeAt Go.RowKit
set_option linter.unusedVariables false
theorem r18_Count_big {w : World} {vl : Value} {vars : Int} (a : Option Addr) (m c : Nat) (hvl : vl = .slice a m c) (hn : 12 < vars) (v : Value) :
    Calls Try.prog 26 #[.agg #[.int .i64 vars, vl], v] w fun e w' => e = .returned (.tuple #[.int .i64 (-1), .slice none 0 0]) ∧ Below w.heap.size w w' := by
  subst hvl
  go_enter Try.func26, Try.ntmps26
  go_wp2
  go_ret2
  exact ⟨rfl, (Below.refl _ _).alloc (Nat.le_refl _) _⟩
def FirstR (n : Nat) (wr : World) (v : Value) : Option Nat → Prop
  | none => v = .slice none 0 0
  | some i => Bools wr v (model i n)
theorem FirstR.below {n : Nat} {wr wx : World} {v : Value} {o : Option Nat} (h : FirstR n wr v o) (hb : Below wr.heap.size wr wx) : FirstR n wx v o := by
  cases o with
  | none => exact h
  | some i => exact Bools.below h hb
theorem FirstR.form {n : Nat} {wr : World} {v : Value} {o : Option Nat} (h : FirstR n wr v o) : ∃ a m c, v = .slice a m c := by
  cases o with
  | none => exact ⟨_, _, _, h⟩
  | some i => obtain ⟨a, c, h, -⟩ := h; exact ⟨_, _, _, h⟩
def isB (xss : List (List Int)) (fs : List Int) (ms : List Bool) (i : Nat) : Bool := allB xss ms && (fs.take i).all fun l => litB l ms
theorem isB_end (xss : List (List Int)) (fs : List Int) (n k i : Nat) (hi : i = fs.length) : isB xss fs (model k n) i = goodB xss fs n k := by
  unfold isB goodB fixB
  rw [hi, List.take_length, Bool.and_comm]
theorem isB_step {xss : List (List Int)} {fs : List Int} {ms : List Bool} {i : Nat} (hi : i < fs.length) : isB xss fs ms (i + 1) = (isB xss fs ms i && litB (fs.getD i 0) ms) := by
  unfold isB
  rw [List.take_succ_eq_append_getElem hi, List.all_append, Bool.and_assoc]
  simp [List.getD, hi]
set_option maxHeartbeats 2000000 in
set_option maxRecDepth 100000 in
theorem r18_Count {w : World} {vl : Value} {n : Nat} {xss : List (List Int)} (h2 : IntsS w vl xss) (hn : n ≤ 12) (hcl : AllCl xss) {v : Value} {fs : List Int} (hv : Ints w v fs) (hfs : ClauseL fs) :
    Calls Try.prog 26 #[.agg #[.int .i64 (n : Int), vl], v] w fun e w' => ∃ u, e = .returned (.tuple #[.int .i64 (cntG (goodB xss fs n) (2 ^ n)), u]) ∧ FirstR n w' u (fstG (goodB xss fs n) (2 ^ n)) ∧ Below w.heap.size w w' := by
  obtain ⟨la, lc, hlv, k1, k2⟩ := h2.form
  obtain ⟨ln, hln⟩ : ∃ ln, ln = xss.length := ⟨_, rfl⟩
  rw [← hln] at hlv
  subst hlv
  have HL := Lib.hid h2
  have HV := Lib.hid hv
  have HFS := Lib.hid hfs
  have HCL := Lib.hid hcl
  obtain ⟨va, vc, rfl, -, j1, j2, -⟩ := hv
  obtain ⟨fn, hfn⟩ : ∃ fn, fn = fs.length := ⟨_, rfl⟩
  rw [← hfn] at HV j1 ⊢
  have hfm : fn ≤ 9223372036854775807 := Nat.le_trans j1 j2
  have HFN := Lib.hid hfn
  have n0 : (0 : Int) ≤ (n : Int) := by omega
  have n1 : (n : Int) ≤ 12 := by omega
  have hw : wrap64 ((2 : Int) ^ n) = ((2 ^ n : Nat) : Int) := by
    have e : ((2 : Int) ^ n) = ((2 ^ n : Nat) : Int) := by simp
    have h1 : 2 ^ n ≤ 2 ^ 12 := Nat.pow_le_pow_right (by omega) hn
    rw [e]
    generalize 2 ^ n = m at *
    unfold wrap64
    omega
  have hM : 2 ^ n ≤ 4096 := by have h1 : 2 ^ n ≤ 2 ^ 12 := Nat.pow_le_pow_right (by omega) hn; simpa using h1
  obtain ⟨M, hMM⟩ : ∃ M, M = 2 ^ n := ⟨_, rfl⟩
  rw [← hMM] at hw hM ⊢
  have HMM := Lib.hid hMM
  have HB0 : Hid (Below w.heap.size w (w.alloc (.cells #[.int .i64 (n : Int), .slice la ln lc] 49))) := Lib.hid ((Below.refl _ _).alloc (Nat.le_refl _) _)
  have HK0 : Hid (Blk (w.alloc (.cells #[.int .i64 (n : Int), .slice la ln lc] 49)) w.heap.size 49 #[.int .i64 (n : Int), .slice la ln lc]) := Lib.hid (Blk.new w 49 _)
  clear h2 hfs hcl hfn hMM hln k1 k2 j1 j2
  go_enter Try.func26, Try.ntmps26
  go_wp2
  go_loopw [6, 7, 8] (fun cnt first i wr => ∃ k : Nat, k ≤ M ∧ i = .int .i64 k ∧ cnt = .int .i64 (cntG (goodB xss fs n) k) ∧ FirstR n wr first (fstG (goodB xss fs n) k) ∧ Blk wr w.heap.size 49 #[.int .i64 (n : Int), .slice la ln lc] ∧ Below w.heap.size w wr) (fun _ _ i _ => M - (intOf i).toNat)
  case atStart => exact ⟨0, Nat.zero_le _, rfl, rfl, rfl, HK0.out, HB0.out⟩
  case round =>
    obtain ⟨k, hk, rfl, rfl, hfirst, hblk, hold⟩ := hrel
    have d0 : wr.cell? ⟨w.heap.size, 0, none⟩ = some (.int .i64 (n : Int)) := hblk.cell 0
    by_cases hlt : (k : Int) < (M : Int)
    · obtain ⟨fo, hfo⟩ : ∃ fo, fo = fstG (goodB xss fs n) k := ⟨_, rfl⟩
      obtain ⟨cc, hcc⟩ : ∃ cc, cc = cntG (goodB xss fs n) k := ⟨_, rfl⟩
      have hcle := cnt_le (goodB xss fs n) k
      rw [← hfo] at hfirst
      rw [← hcc] at hcle ⊢
      have HCC := Lib.hid hcc
      have HFO := Lib.hid hfo
      have HFI := Lib.hid hfirst
      have HBL := Lib.hid hblk
      have HOL := Lib.hid hold
      obtain ⟨fa, fm, fc, rfl⟩ := hfirst.form
      clear hfirst hblk hold hcc hfo
      go_wp2_with fail
      refine (r18_Model k n (by omega) hn wr).mono ?_
      rintro e w1 ⟨u, rfl, hu⟩
      have b1 := hu.1.bools
      have B1 := Lib.hid b1
      have O1 := Lib.hid (HOL.out.trans (hu.2.1.mono HOL.out.size))
      have K1 := Lib.hid (HBL.out.below hu.2.1 HBL.out.lt)
      have F1 := Lib.hid (HFI.out.below hu.2.1)
      obtain ⟨ua, uc, rfl, -⟩ := b1
      rw [model_length] at B1 ⊢
      have e0 : w1.cell? ⟨w.heap.size, 0, none⟩ = some (.int .i64 (n : Int)) := K1.out.cell 0
      have e1 : w1.cell? ⟨w.heap.size, 1, none⟩ = some (.slice la ln lc) := K1.out.cell 1
      have hall := r17_All (HL.out.below O1.out) HCL.out B1.out
      have HA := Lib.hid hall
      clear hu d0 hall
      go_wp2_with fail
      refine HA.out.mono ?_
      rintro e w2 ⟨rfl, rfl⟩
      go_wp2
      go_loopw [10, 11] (fun is i wi => ∃ j : Nat, j ≤ fn ∧ i = .int .i64 j ∧ is = .bool (isB xss fs (model k n) j) ∧ wi = w1) (fun _ i _ => fn - (intOf i).toNat)
      case atStart => exact ⟨0, Nat.zero_le _, rfl, by simp [isB], rfl⟩
      case round =>
        obtain ⟨j, hj, rfl, rfl, rfl⟩ := hrel
        by_cases hlj : (j : Int) < (fn : Int)
        · have hjf : j < fs.length := by have := HFN.out; omega
          have hiv := HV.out.below O1.out
          obtain ⟨va', vc', hve, -, -, -, hvv⟩ := hiv
          injection hve with g1 g2 g3
          subst g1
          obtain ⟨b, off, rfl, hcell⟩ := ints_cells hvv hjf
          have q1 := hcell wr (Below.refl _ _)
          have hlit := r17_Lit B1.out (fs.getD j 0) (small_at HFS.out hjf)
          have hst := isB_step (xss := xss) (ms := model k n) hjf
          generalize fs.getD j 0 = y at q1 hlit hst
          generalize isB xss fs (model k n) j = cur at hst ⊢
          have HLT := Lib.hid hlit
          have HST := Lib.hid hst
          clear hjf hvv hcell hlit hst g2 g3
          cases cur with
          | false =>
            go_wp2
            go_roundw
            case rel => exact ⟨j + 1, by omega, by go_num, by rw [HST.out]; rfl, trivial⟩
            case measure => simp [intOf]; omega
          | true =>
            go_wp2_with ((go_at_call 25; refine (HLT.out).mono ?_; rintro e w' ⟨rfl, rfl⟩))
            go_roundw
            case rel => exact ⟨j + 1, by omega, by go_num, by rw [HST.out]; rfl, trivial⟩
            case measure => simp [intOf]; omega
        · have hje : isB xss fs (model k n) j = goodB xss fs n k := isB_end _ _ _ _ _ (by have := HFN.out; omega)
          rw [hje]
          cases hg : goodB xss fs n k with
          | false =>
            have HG := Lib.hid hg
            clear hg hje
            go_wp2
            go_roundw
            case rel => exact ⟨k + 1, by omega, by go_num, by rw [cntG_no HG.out, HCC.out], by rw [fstG_no HG.out, ← HFO.out]; exact F1.out, K1.out, O1.out⟩
            case measure => simp [intOf]; omega
          | true =>
            have HG := Lib.hid hg
            clear hg hje
            by_cases hc0 : cc = 0
            · have hb0 : ((cc : Int) == 0) = true := by rw [beq_iff_eq]; omega
              have HN0 : Hid (fo = none) := Lib.hid (by rw [HFO.out]; exact (cnt_fst _ k).1 (by rw [← HCC.out]; exact hc0))
              clear hc0
              go_wp2
              go_roundw
              case rel =>
                refine ⟨k + 1, by omega, by go_num, by rw [cntG_yes HG.out, ← HCC.out]; go_num, ?_, K1.out, O1.out⟩
                rw [fstG_yes HG.out (by rw [← HFO.out]; exact HN0.out)]
                exact B1.out
              case measure => simp [intOf]; omega
            · have hb0 : ((cc : Int) == 0) = false := by rw [beq_eq_false_iff_ne]; omega
              have HN0 : Hid (∃ i, fo = some i) := Lib.hid (by
                rw [HFO.out]
                cases hfz : fstG (goodB xss fs n) k with
                | some i => exact ⟨i, rfl⟩
                | none => exact absurd ((cnt_fst _ k).2 hfz) (by rw [← HCC.out]; exact hc0))
              clear hc0
              go_wp2
              go_roundw
              case rel =>
                refine ⟨k + 1, by omega, by go_num, by rw [cntG_yes HG.out, ← HCC.out]; go_num, ?_, K1.out, O1.out⟩
                obtain ⟨i, hi⟩ := HN0.out
                rw [fstG_old (by rw [← HFO.out]; exact hi), ← hi]
                exact F1.out
              case measure => simp [intOf]; omega
    · have hkM : k = M := by omega
      have HK := Lib.hid hkM
      have HFV := Lib.hid hfirst
      have HOL := Lib.hid hold
      clear hkM hfirst hblk hold
      go_wp2
      go_ret2
      exact ⟨u7, by rw [HK.out]; rfl, by rw [← HK.out]; exact HFV.out, HOL.out⟩
end Go.Proofs.Ytkofhilgehhopaa
