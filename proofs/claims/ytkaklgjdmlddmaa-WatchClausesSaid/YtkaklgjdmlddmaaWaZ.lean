/-
  The laws of chapter 22: WatchNils, WatchClauses.
-/
import Derived.Test.YtkaklgjdmlddmaaWaY
import Derived.Test.YtkaklgjdmlddmaaFrameS
namespace Go.Proofs.Ytkaklgjdmlddmaa
open Go.ChangeShapes Go.WideShapes Go.ChangeAt Go.RowKit
set_option linter.unusedVariables false
set_option linter.unusedSimpArgs false
attribute [local go_sem ↓] Go.wp_at_zero Go.wp_at_succ
set_option maxHeartbeats 1000000 in
theorem nils_ {w : World} {v : Value} {c : List Int} (h : Ints w v c) (id : Int) : Calls Try.prog 5 #[v, .int .i64 id] w fun e w' => e = .returned (.bool true) ∧ Below w.heap.size w w' := by
  obtain ⟨a, cap, rfl, -, hc1, hc2, -⟩ := h
  obtain ⟨n, hn⟩ : ∃ n, n = c.length := ⟨_, rfl⟩
  rw [← hn] at hc1 ⊢
  have hm : n ≤ 9223372036854775807 := Nat.le_trans hc1 hc2
  have HAL := Lib.hid alive_
  clear hn hc1 hc2
  by_cases h30 : (30 : Int) < (n : Int)
  · go_enter Try.func5, Try.ntmps5
    go_wp2_with ((go_at_call 8; refine (HAL.out _).mono ?_; rintro e w' ⟨rfl, hb⟩))
    go_ret
    exact ⟨rfl, by assumption⟩
  · have h30' : (n : Int) ≤ 30 := by omega
    clear h30
    go_enter Try.func5, Try.ntmps5
    go_wp2_with (first | (go_at_call 19; refine (Add_nil _ _).mono ?_; rintro e w' ⟨rfl, rfl⟩) | (go_at_call 12; refine (Run_nil _).mono ?_; rintro e w' ⟨rfl, rfl⟩) | (go_at_call 10; refine (New_nil _).mono ?_; rintro e w' ⟨rfl, rfl⟩) | (go_at_call 17; refine (Clause_nil _ _).mono ?_; rintro e w' ⟨rfl, rfl⟩) | (go_at_call 20; refine (Len_nil _).mono ?_; rintro e w' ⟨rfl, rfl⟩))
    refine (Remove_nil _ _).mono ?_
    rintro e w1 ⟨rfl, hb1⟩
    have HB1 := Lib.hid hb1
    clear hb1
    go_wp2_with (first | (go_at_call 17; refine (Clause_nil _ _).mono ?_; rintro e w' ⟨rfl, rfl⟩) | (go_at_call 20; refine (Len_nil _).mono ?_; rintro e w' ⟨rfl, rfl⟩))
    refine (HAL.out _).mono ?_
    rintro e w2 ⟨rfl, hb2⟩
    have HB2 := Lib.hid hb2
    clear hb2
    go_wp2_with fail
    go_ret
    exact ⟨rfl, HB1.out.trans (HB2.out.mono HB1.out.size)⟩
theorem LW.start {w0 w1 w2 : World} {wb t : Nat} {r : Nat → Nat} {s : TS} (hb1 : Below w0.heap.size w0 w1) (h : WAt w0.heap.size w2 r wb t (wNew s)) (hb2 : Below w1.heap.size w1 w2) : LW w0.heap.size w0 w2 r wb t (wNew s) :=
  LW.new (Below.refl _ w0) hb1 h hb2
theorem AInv.isB {og : List (List Int)} {N : Nat} {S : WS} (h : AInv og N S) (id : Int) : isB S id = decide (0 ≤ id ∧ id < (og.length : Int)) := by
  unfold Go.Proofs.Ytkaklgjdmlddmaa.isB
  rw [h.inv.1.cn]
  by_cases hd : 0 ≤ id ∧ id < (og.length : Int)
  · rw [decide_eq_true hd, Bool.true_and]
    have hk : id.toNat < og.length := by omega
    have hne : S.cl.getD id.toNat [] ≠ [] := fun e => by
      have := h.inv.1.cp _ hk
      rw [e] at this
      exact (h.inv.1.og9 _ hk).ne this.nil_eq.symm
    cases hc : S.cl.getD id.toNat [] with
    | nil => exact absurd hc hne
    | cons a b => rfl
  · rw [decide_eq_false hd]; rfl
theorem sub_perm {a b : List Int} (h : a.Perm b) : sameS a b = true := by
  unfold sameS subB
  rw [Bool.and_eq_true, List.all_eq_true, List.all_eq_true]
  exact ⟨fun x hx => by simpa using h.mem_iff.1 hx, fun x hx => by simpa using h.mem_iff.2 hx⟩
set_option maxHeartbeats 4000000 in
set_option maxRecDepth 100000 in
theorem clauses_ {w : World} {v : Value} {xss : List (List Int)} (h : IntsS w v xss) (id : Int) : Calls Try.prog 4 #[v, .int .i64 id] w fun e w' => e = .returned (.bool true) ∧ Below w.heap.size w w' := by
  have HLI := Lib.hid (fun W (hW : Below w.heap.size w W) => light_ (h.below hW))
  have HAL := Lib.hid alive_
  cases hl : lightB xss with
  | false =>
    have HL1 := Lib.hid (HLI.out w (Below.refl _ _))
    rw [hl] at HL1
    clear hl h
    go_enter Try.func4, Try.ntmps4
    go_wp2_with (first | (go_at_call 7; refine (HL1.out).mono ?_; rintro e w' ⟨rfl, rfl⟩) | (go_at_call 8; refine (HAL.out _).mono ?_; rintro e w' ⟨rfl, hb⟩))
    go_ret
    exact ⟨rfl, by assumption⟩
  | true =>
    have HL1 := Lib.hid (HLI.out w (Below.refl _ _))
    rw [hl] at HL1
    have HLB := Lib.hid hl
    have HS := Lib.hid h
    clear hl h
    go_enter Try.func4, Try.ntmps4
    go_wp2_with ((go_at_call 7; refine (HL1.out).mono ?_; rintro e w' ⟨rfl, rfl⟩))
    refine (trail_New 9 (by omega) _).mono ?_
    rintro e w1 ⟨rfl, hT, hb⟩
    obtain ⟨t, ht⟩ : ∃ t, t = w.heap.size + 1 := ⟨_, rfl⟩
    have hfp : ∀ k ∈ [w.heap.size + 1, w.heap.size], w.heap.size ≤ k := by intro k hk; simp at hk; omega
    have HNW := Lib.hid (New_ hT hfp hb.size)
    rw [← ht] at HNW ⊢
    have HB1 := Lib.hid hb
    clear ht hT hb hfp
    go_wp2_with fail
    refine HNW.out.mono ?_
    rintro e w2 ⟨wb, r, rfl, hat, hb2⟩
    have hW := LW.start HB1.out hat hb2
    have HAD := Lib.hid (added_ HS.out HLB.out hW)
    clear hat hb2 hW
    go_wp2_with fail
    refine HAD.out.mono ?_
    rintro e w3 ⟨r3, S3, lv, rfl, hA, hW, hL⟩
    obtain ⟨og, hog⟩ : ∃ og, og = fines xss := ⟨_, rfl⟩
    rw [← hog] at hA hL
    have hn80 : og.length ≤ 80 := by rw [hog]; have := fines_len xss; have := light_n HLB.out; omega
    obtain ⟨n, hn⟩ : ∃ n, n = og.length := ⟨_, rfl⟩
    obtain ⟨la, lc, hlv, hlc, hlm⟩ := hL.intsS.form
    rw [← hn] at hlv hlc hn80
    have hisb := hA.isB id
    subst hlv
    have HA := Lib.hid hA
    have HW := Lib.hid hW
    have HL := Lib.hid hL
    have HN := Lib.hid hn
    have hm9 : n ≤ 9223372036854775807 := by omega
    clear hA hW hL hn hog hlm
    by_cases hin : 0 ≤ id ∧ id < (n : Int)
    · obtain ⟨i, rfl⟩ : ∃ i : Nat, id = (i : Int) := ⟨id.toNat, by omega⟩
      obtain ⟨hi0, hi1⟩ := hin
      have hi : i < og.length := by have := HN.out; omega
      have hib : isB S3 (i : Int) = true := by rw [hisb]; exact decide_eq_true (by have := HN.out; omega)
      have hpm := HA.out.inv.1.cp i hi
      have h9 := HA.out.inv.1.og9 i hi
      obtain ⟨cc, hcc⟩ : ∃ cc, cc = S3.cl.getD i [] := ⟨_, rfl⟩
      obtain ⟨gg, hgg⟩ : ∃ gg, gg = og.getD i [] := ⟨_, rfl⟩
      rw [← hcc, ← hgg] at hpm
      rw [← hgg] at h9
      have hlen := hpm.length_eq
      have hgl := h9.len
      have hcl := Clause_yes HW.out.at_ i hib (by rw [← hcc]; omega)
      rw [← hcc] at hcl
      obtain ⟨b, off, cap', u, hv', hcell, hint⟩ := HL.out.intsS.at_ hi
      rw [← hgg] at hint
      obtain ⟨ua, uc, rfl⟩ := ints_form hint
      obtain ⟨m, hm⟩ : ∃ m, m = gg.length := ⟨_, rfl⟩
      have hmm : m ≤ 30 := by omega
      rw [← hm] at hcell hint
      injection hv' with e1 e2 e3
      subst e1
      have hrun := HA.out.inv.1.run
      have hrem := HA.out.inv
      have HCL := Lib.hid hcl
      have HPM := Lib.hid hpm
      have HLE := Lib.hid hlen
      have HIN := Lib.hid hint
      have HIB := Lib.hid hib
      have HCC := Lib.hid hcc
      have HM := Lib.hid hm
      have HGG := Lib.hid hgg
      have HHI := Lib.hid hi
      clear hcl hpm hlen hint hib hcc hm hi hisb hrem hrun h9 hgg hgl e2 e3
      go_wp2_with fail
      refine HCL.out.mono ?_
      rintro e w4 ⟨uu, rfl, hcp⟩
      have hb4 := hcp.2.2
      obtain ⟨va, vc, rfl⟩ : ∃ va vc, uu = .slice va cc.length vc := by
        obtain ⟨a, c, e⟩ := ints_form hcp.1.ints
        exact ⟨a, c, e⟩
      rw [HLE.out, ← HM.out]
      have hq4 := (hb4.cell (p := ⟨b, off + i, none⟩) (World.block_lt_of_cell? _ _ hcell)).trans hcell
      have hi4 := HIN.out.below hb4
      have hs4 : Ints w4 (.slice va m vc) cc := by rw [HM.out, ← HLE.out]; exact hcp.1.ints
      have hsame := r17_Same hs4 hi4
      rw [sub_perm HPM.out] at hsame
      have HSA := Lib.hid hsame
      have hW4 := HW.out.below hb4
      have hrm := Remove_ hW4.at_ hW4.hB i HIB.out (HA.out.inv.remOk (fun e => by
        have h1 := HLE.out
        rw [HCC.out, e] at h1
        have := (HA.out.inv.1.og9 i HHI.out).ne
        rw [HGG.out] at h1
        exact this (List.eq_nil_of_length_eq_zero h1.symm)))
      have HW4 := Lib.hid hW4
      have HRM := Lib.hid hrm
      have hcl0 : i < S3.cl.length := by rw [HA.out.inv.1.cn]; exact HHI.out
      have hno : isB (removeF S3 i) (i : Int) = false := by
        unfold Go.Proofs.Ytkaklgjdmlddmaa.isB removeF
        simp only [Int.toNat_natCast]
        rw [getD_set_self _ _ _ _ hcl0]
        simp
      have HNO := Lib.hid hno
      have sz1 : (i : Int) < (n : Int) := hi1
      clear hcp hb4 hi4 hs4 hsame hW4 hrm hcell hcl0 hno
      go_wp2_with ((go_at_call 15; refine (HSA.out).mono ?_; rintro e w' ⟨rfl, rfl⟩))
      refine HRM.out.mono ?_
      rintro e w5 ⟨rfl, hp⟩
      obtain ⟨r5, hW5, -, -⟩ := HW4.out.post hp
      have HRN := Lib.hid (Remove_no hW5.at_ (i : Int) HNO.out)
      have HW5 := Lib.hid hW5
      clear hp hW5
      go_wp2_with fail
      refine HRN.out.mono ?_
      rintro e w6 ⟨rfl, hb6⟩
      have HW6 := Lib.hid (HW5.out.below hb6)
      clear hb6
      go_wp2_with fail
      refine (HAL.out _).mono ?_
      rintro e w7 ⟨rfl, hb7⟩
      have HW7 := Lib.hid (HW6.out.below hb7)
      clear hb7
      go_wp2_with fail
      go_ret
      exact ⟨rfl, HW7.out.old⟩
    · have hib : isB S3 id = false := by rw [hisb]; exact decide_eq_false (by have := HN.out; omega)
      have HCN := Lib.hid (Clause_no HW.out.at_ id hib)
      have HRN := Lib.hid (Remove_no HW.out.at_ id hib)
      clear hib hisb
      have hin2 : id < 0 ∨ (0 ≤ id ∧ (n : Int) ≤ id) := by omega
      clear hin
      rcases hin2 with h0 | ⟨h0, h1⟩
      all_goals
        go_wp2_with ((go_at_call 17; refine (HCN.out).mono ?_; rintro e w' ⟨rfl, rfl⟩))
        refine HRN.out.mono ?_
        rintro e w6 ⟨rfl, hb6⟩
        have HW6 := Lib.hid (HW.out.below hb6)
        clear hb6
        go_wp2_with fail
        refine (HAL.out _).mono ?_
        rintro e w7 ⟨rfl, hb7⟩
        have HW7 := Lib.hid (HW6.out.below hb7)
        clear hb7
        go_wp2_with fail
        go_ret
        exact ⟨rfl, HW7.out.old⟩
end Go.Proofs.Ytkaklgjdmlddmaa
