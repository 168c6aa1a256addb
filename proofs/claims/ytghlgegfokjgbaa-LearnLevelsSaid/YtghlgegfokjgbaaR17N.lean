/-
  The document's clauses (astrariumref17), walked: the order of literals, Norm; general for any chapter.
-/
import Derived.Test.YtghlgegfokjgbaaR17B
import Derived.Test.YtghlgegfokjgbaaOwnB
import Derived.Deep.DrawnRows
import Derived.IntWalk
namespace Go.Proofs.Ytghlgegfokjgbaa
open Go.ChangeShapes Go.WideShapes Go.ChangeAt Go.RowKit
set_option linter.unusedVariables false
attribute [local go_sem ↓] Go.wp_at_zero Go.wp_at_succ
def NormPost (w w' : World) (u : Value) (l : List Int) : Prop := OwnI w w' u (normC l)
def befB (x y : Int) : Bool := decide (key x < key y)
theorem r17_before (x y : Int) (hx : small x) (hy : small y) (w : World) : Calls Try.prog 51 #[.int .i64 x, .int .i64 y] w fun e w' => e = .returned (.bool (befB x y)) ∧ w' = w := by
  obtain ⟨a, ha⟩ : ∃ a, a = absI x := ⟨_, rfl⟩
  obtain ⟨b, hb⟩ : ∃ b, b = absI y := ⟨_, rfl⟩
  have A1 := Lib.hid (r17_Abs x hx w)
  have A2 := Lib.hid (r17_Abs y hy w)
  rw [← ha] at A1
  rw [← hb] at A2
  have hk := key_lt x y
  rw [← ha, ← hb] at hk
  rcases Int.lt_trichotomy a b with h | h | h
  · have e : befB x y = true := decide_eq_true (hk.2 (.inl h))
    have c1 : decide (a < b) = true := decide_eq_true h
    have E := Lib.hid e
    clear hk ha hb e hx hy h
    go_enter Try.func51, Try.ntmps51
    go_wp2_with fail
    refine A1.out.mono ?_
    rintro e w1 ⟨rfl, rfl⟩
    go_wp2_with ((go_at_call 21; refine (A2.out).mono ?_; rintro e w' ⟨rfl, rfl⟩))
    go_ret
    exact ⟨by rw [E.out]; rfl, rfl⟩
  · subst h
    have c1 : decide (a < a) = false := decide_eq_false (by omega)
    by_cases hyx : y < x
    · have e : befB x y = true := decide_eq_true (hk.2 (.inr ⟨rfl, hyx⟩))
      have c2 : decide (y < x) = true := decide_eq_true hyx
      have E := Lib.hid e
      clear hk ha hb e hx hy hyx
      go_enter Try.func51, Try.ntmps51
      go_wp2_with fail
      refine A1.out.mono ?_
      rintro e w1 ⟨rfl, rfl⟩
      go_wp2_with fail
      refine A2.out.mono ?_
      rintro e w1 ⟨rfl, rfl⟩
      go_wp2_with fail
      refine A1.out.mono ?_
      rintro e w1 ⟨rfl, rfl⟩
      go_wp2_with ((go_at_call 21; refine (A2.out).mono ?_; rintro e w' ⟨rfl, rfl⟩))
      go_ret
      exact ⟨by rw [E.out]; rfl, rfl⟩
    · have e : befB x y = false := decide_eq_false (fun h => by have := hk.1 h; omega)
      have c2 : decide (y < x) = false := decide_eq_false hyx
      have E := Lib.hid e
      clear hk ha hb e hx hy hyx
      go_enter Try.func51, Try.ntmps51
      go_wp2_with fail
      refine A1.out.mono ?_
      rintro e w1 ⟨rfl, rfl⟩
      go_wp2_with fail
      refine A2.out.mono ?_
      rintro e w1 ⟨rfl, rfl⟩
      go_wp2_with fail
      refine A1.out.mono ?_
      rintro e w1 ⟨rfl, rfl⟩
      go_wp2_with ((go_at_call 21; refine (A2.out).mono ?_; rintro e w' ⟨rfl, rfl⟩))
      go_ret
      exact ⟨by rw [E.out]; rfl, rfl⟩
  · have e : befB x y = false := decide_eq_false (fun h => by have := hk.1 h; omega)
    have c1 : decide (a < b) = false := decide_eq_false (by omega)
    have c2 : (a == b) = false := by rw [beq_eq_false_iff_ne]; omega
    have E := Lib.hid e
    clear hk ha hb e hx hy h
    go_enter Try.func51, Try.ntmps51
    go_wp2_with fail
    refine A1.out.mono ?_
    rintro e w1 ⟨rfl, rfl⟩
    go_wp2_with fail
    refine A2.out.mono ?_
    rintro e w1 ⟨rfl, rfl⟩
    go_wp2_with fail
    refine A1.out.mono ?_
    rintro e w1 ⟨rfl, rfl⟩
    go_wp2_with ((go_at_call 21; refine (A2.out).mono ?_; rintro e w' ⟨rfl, rfl⟩))
    go_ret
    exact ⟨by rw [E.out]; rfl, rfl⟩
/-- Between rounds. -/
def NRel (l : List Int) (k : Nat) (w wr : World) (out fine : Value) : Prop := OwnI w wr out (normC (l.take k)) ∧ fine = .bool (fineC (l.take k))
theorem ClauseL.take {l : List Int} (h : ClauseL l) (k : Nat) : ClauseL (l.take k) := fun x hx => h x (List.mem_of_mem_take hx)
theorem norm_contains (l : List Int) (x : Int) : (normC l).contains x = l.contains x := by
  rw [Bool.eq_iff_iff, List.contains_eq_mem, List.contains_eq_mem, decide_eq_true_eq, decide_eq_true_eq, mem_normC]
theorem next_has {l : List Int} {x : Int} (h : l.contains x = true) : normC (l ++ [x]) = normC l ∧ fineC (l ++ [x]) = fineC l := by
  rw [List.contains_eq_mem, decide_eq_true_eq] at h
  refine ⟨by rw [normC_snoc]; exact insK_old x _ (strict_normC l) ((mem_normC l x).2 h), fineC_mem fun a => ?_⟩
  rw [List.mem_append, List.mem_singleton]
  exact ⟨fun g => g.elim id (fun e => by rw [e]; exact h), .inl⟩
theorem next_new {l : List Int} {x : Int} (h : l.contains x = false) : normC (l ++ [x]) = (normC l).take (kOfK (normC l) x) ++ [x] ++ (normC l).drop (kOfK (normC l) x) := by
  rw [List.contains_eq_mem, decide_eq_false_iff_not] at h
  rw [normC_snoc]
  exact insK_new x _ (fun g => h ((mem_normC l x).1 g))
set_option maxHeartbeats 4000000 in
set_option maxRecDepth 100000 in
theorem r17_Norm {w : World} {v : Value} {l : List Int} (h : Ints w v l) (hcl : ClauseL l) (hs : l.length ≤ 1000000) :
    Calls Try.prog 25 #[v] w fun e w' => ∃ u, e = .returned (.tuple #[u, .bool (fineC l)]) ∧ NormPost w w' u l := by
  obtain ⟨a, cap, rfl, -, hc1, hc2, hv⟩ := h
  obtain ⟨n, hn⟩ : ∃ n, n = l.length := ⟨_, rfl⟩
  rw [← hn] at hc1 hs ⊢
  have HN := Lib.hid hn
  have HV := Lib.hid hv
  have HCL := Lib.hid hcl
  obtain ⟨ans, hans⟩ : ∃ b, b = fineC l := ⟨_, rfl⟩
  rw [← hans]
  have HA := Lib.hid hans
  clear hv hn hc1 hc2 hcl hans
  go_enter Try.func25, Try.ntmps25
  go_wp2
  go_loopw [4, 5, 6, 7] (fun out fine i _ wr => ∃ k : Nat, k ≤ n ∧ i = .int .i64 k ∧ NRel l k w wr out fine) (fun _ _ i _ _ => n - (intOf i).toNat)
  case atStart => exact ⟨0, Nat.zero_le _, rfl, OwnI.start w, rfl⟩
  case round =>
    obtain ⟨k, hk, rfl, hrel, rfl⟩ := hrel
    by_cases hlt : (k : Int) < (n : Int)
    · have hkn : k < l.length := by have := HN.out; omega
      obtain ⟨b, off, rfl, hcell⟩ := ints_cells HV.out hkn
      obtain ⟨x, hx⟩ : ∃ x, x = l.getD k 0 := ⟨_, rfl⟩
      have hxs : small x := by rw [hx]; exact small_at HCL.out hkn
      have hsm : ∀ j, j < (normC (l.take k)).length → small ((normC (l.take k)).getD j 0) := fun j hj => small_at (clause_normC (HCL.out.take k)) hj
      have hhas := norm_contains (l.take k) x
      have hneg := norm_contains (l.take k) (-x)
      have hcl2 : ClauseL (l.take k ++ [x]) := by rw [hx, ← take_snocI hkn]; exact HCL.out.take (k + 1)
      have hfs := fineC_snoc hcl2
      have hn1 := next_has (l := l.take k) (x := x)
      have hn2 := next_new (l := l.take k) (x := x)
      have htk : l.take (k + 1) = l.take k ++ [x] := by rw [hx]; exact take_snocI hkn
      rw [← htk] at hfs hn1 hn2
      obtain ⟨xs, hxs'⟩ : ∃ xs, xs = normC (l.take k) := ⟨_, rfl⟩
      have hlen : xs.length ≤ k := by rw [hxs']; have := length_normC (l.take k); rw [List.length_take] at this; omega
      rw [← hxs'] at hrel hsm hhas hneg hn1 hn2
      rw [← hx] at hcell
      obtain ⟨fk, hfk⟩ : ∃ fk, fk = fineC (l.take k) := ⟨_, rfl⟩
      rw [← hfk] at hfs hn1 ⊢
      rw [← hhas] at hn1 hn2
      rw [← hneg] at hfs
      obtain ⟨A, cap2, rfl, hcp1, hcp2⟩ := hrel.form
      have hint := hrel.ints
      obtain ⟨m, hm⟩ : ∃ m, m = xs.length := ⟨_, rfl⟩
      rw [← hm] at hlen hcp1 hrel hint hsm ⊢
      have q1 := hcell wr hrel.2.1
      obtain ⟨x0, x1⟩ := id hxs
      have HAS := Lib.hid (r17_Has hint x)
      have HAN := Lib.hid (r17_Has hint (-x))
      have HC := Lib.hid hcell
      have HO := Lib.hid hrel
      have HM := Lib.hid hm
      have HSM := Lib.hid hsm
      have HXS := Lib.hid hxs
      have HN1 := Lib.hid hn1
      have HN2 := Lib.hid hn2
      have HFS := Lib.hid hfs
      have hm9 : m ≤ 9223372036854775807 := by omega
      obtain ⟨has, hhas2⟩ : ∃ b, b = xs.contains x := ⟨_, rfl⟩
      obtain ⟨hasn, hhasn2⟩ : ∃ b, b = xs.contains (-x) := ⟨_, rfl⟩
      rw [← hhas2] at HAS HN1 HN2
      rw [← hhasn2] at HAN HFS
      clear hcell hrel hx hxs hxs' hm hkn hint hsm hhas hneg hcl2 hfs hn1 hn2 htk hfk hhas2 hhasn2
      cases has
      · have HX : Hid (normC (l.take (k + 1)) = xs.take (kOfK xs x) ++ [x] ++ xs.drop (kOfK xs x)) := Lib.hid (HN2.out rfl)
        have HFN : Hid (fineC (l.take (k + 1)) = (fk && !hasn)) := HFS
        cases fk
        all_goals
          go_wp2_with fail
          refine HAS.out.mono ?_
          rintro e w1 ⟨rfl, rfl⟩
          go_wp2_with ((go_at_call 50; refine (HAN.out).mono ?_; rintro e w' ⟨rfl, rfl⟩))
          obtain ⟨wo, rfl⟩ : ∃ wo : World, wo = wr := ⟨_, rfl⟩
          go_loopw [7] (fun t ws => ∃ j : Nat, j ≤ kOfK xs x ∧ t = .int .i64 j ∧ ∃ nq, ws = wo.drewN nq) (fun t _ => m - (intOf t).toNat)
          case atStart => exact ⟨0, Nat.zero_le _, rfl, 0, rfl⟩
          case round =>
            obtain ⟨j, hj, rfl, hq⟩ := hrel
            have hbel : Below wo.heap.size wo wr := by obtain ⟨n0, rfl⟩ := hq; exact below_drewN (Below.refl _ _) n0
            have HQ := Lib.hid hq
            have q9 := HC.out wr (HO.out.2.1.trans (hbel.mono HO.out.2.1.size))
            have HO := Lib.hid (HO.out.below hbel)
            clear hq hbel
            by_cases hjk : j < kOfK xs x
            · have hjm : j < m := by have := kOfK_le x xs; have := HM.out; omega
              have hlt2 := kOfK_lt x xs j hjk
              obtain ⟨g, rfl, q2, -⟩ := HO.out.1.cellI HM.out hjm
              have hys := HSM.out j hjm
              obtain ⟨y, hy⟩ : ∃ y, y = xs.getD j 0 := ⟨_, rfl⟩
              rw [← hy] at q2 hlt2 hys
              have HB : Hid (∀ W, Calls Try.prog 51 #[.int .i64 y, .int .i64 x] W fun e w' => e = .returned (.bool true) ∧ w' = W) := Lib.hid fun W => by
                have := r17_before y x hys HXS.out W
                rw [show befB y x = true from decide_eq_true hlt2] at this
                exact this
              have c1 : decide ((j : Int) < (m : Int)) = true := decide_eq_true (by omega)
              have i1 : (0 : Int) ≤ (j : Int) := by omega
              have i2 : (j : Int) < (m : Int) := by omega
              have i3 : (0 : Int) ≤ (k : Int) := by omega
              clear hy hlt2 hys
              go_wp2
              go_quiet ((go_at_call 51; exact Calls.quiet_of_same (HB.out _)))
              go_wp2
              go_roundw
              case rel =>
                refine ⟨j + 1, by omega, by go_num, ?_⟩
                obtain ⟨n0, e0⟩ := HQ.out
                exact ⟨_, by rw [e0]; exact World.drewN_drewN _ _ _⟩
              case measure => simp [intOf]; omega
            · have hjk' : j = kOfK xs x := by omega
              have i3 : (0 : Int) ≤ (k : Int) := by omega
              have HI2 : Hid (xs.take (kOfK xs x) ++ [x] ++ xs.drop (kOfK xs x) = xs.take j ++ [x] ++ xs.drop j) := Lib.hid (by rw [hjk'])
              by_cases hjm : j < m
              · have hle := kOfK_at x xs (by rw [← hjk']; have := HM.out; omega)
                rw [← hjk'] at hle
                obtain ⟨g, rfl, q2, -⟩ := HO.out.1.cellI HM.out hjm
                have hys := HSM.out j hjm
                obtain ⟨y, hy⟩ : ∃ y, y = xs.getD j 0 := ⟨_, rfl⟩
                rw [← hy] at q2 hle hys
                have HB : Hid (∀ W, Calls Try.prog 51 #[.int .i64 y, .int .i64 x] W fun e w' => e = .returned (.bool false) ∧ w' = W) := Lib.hid fun W => by
                  have := r17_before y x hys HXS.out W
                  rw [show befB y x = false from decide_eq_false hle] at this
                  exact this
                have c1 : decide ((j : Int) < (m : Int)) = true := decide_eq_true (by omega)
                have i1 : (0 : Int) ≤ (j : Int) := by omega
                have i2 : (j : Int) < (m : Int) := by omega
                clear hy hle hys hjk hjk'
                go_wp2
                go_quiet ((go_at_call 51; exact Calls.quiet_of_same (HB.out _)))
                go_wp2
                have SR : Hid (Src wr (some ⟨g, 0, none⟩) 1 m (xs.map iv)) := Lib.hid (by rw [HM.out]; exact HO.out.1.src)
                have HJ : Hid (((xs.take j)).length = j) := Lib.hid (by first | rfl | (rw [List.length_take]; have := HM.out; omega))
                have HD : Hid (((xs.drop j)).length = m - j) := Lib.hid (by first | rfl | (rw [List.length_drop]; have := HM.out; omega))
                have S1 : Hid (∀ (W : World), Below wr.heap.size wr W → Src W (some ⟨g, 0, none⟩) 1 j (((xs.take j)).map iv)) := Lib.hid fun W hW => by first | exact Src.nil _ _ _ | (rw [List.map_take]; exact (SR.out.take (by omega)).below hW)
                have S3 : Hid (∀ (W : World), Below wr.heap.size wr W → Src W (some ⟨g, j, none⟩) 1 (m - j) (((xs.drop j)).map iv)) := Lib.hid fun W hW => by first | exact Src.nil _ _ _ | (rw [List.map_drop]; exact (SR.out.drop (by omega) (fun _ => by first | (simp [Addr.add]; done) | (exfalso; omega))).below hW)
                have HCQ : Hid (∀ W, Below wr.heap.size wr W → W.cell? ⟨b, off + k, none⟩ = some (.int .i64 x)) := Lib.hid fun W hW => HC.out W (HO.out.2.1.trans (hW.mono HO.out.2.1.size))
                have b1 : (j : Int) ≤ (m : Int) := by omega
                have b2 : (m : Int) ≤ (cap2 : Int) := by omega
                have b3 : (0 : Int) ≤ (j : Int) := by omega
                have b4 : (j : Int) ≤ (cap2 : Int) := by omega
                have b5 : j ≤ cap2 := by omega
                go_region_held3 (fun w' => w'.cell? ⟨b, off + k, none⟩ = some (.int .i64 x)) (go_keep) (first
                          | (refine step_I (w := wr) rfl (.tmp 48) (.tmp 51) rfl (.slice (some ⟨wr.heap.size, 0, none⟩) 0 0) [] (by simp [Act.eval]) (some ⟨g, 0, none⟩) j cap2 (xs.take j) (by simp [Act.eval]) HJ.out ?_ ?_ ?_ ?_; (rw [List.length_nil]; omega); (first | exact OwnI.new (heap_new1 (wr.drewN _) _) (below_d1 _ _ _) (Nat.le_refl _) | exact OwnI.new (heap_new3 (wr.drewN _) _ _) (below_d2 _ _ _ _) (Nat.le_refl _)); (first | exact S1.out _ (below_d1 _ _ _) | exact S1.out _ (below_d2 _ _ _ _)); intro v1 w1 h1 hc1; have e1 := HCQ.out w1 h1.2.1; have H1 := Lib.hid h1; have K1 := Lib.hid hc1; clear h1 hc1)
                          | (refine step_I (w := wr) rfl (.tmp 48) (.tmp 51) rfl (.slice (some ⟨wr.heap.size + 1, 0, none⟩) 0 0) [] (by simp [Act.eval]) (some ⟨g, 0, none⟩) j cap2 (xs.take j) (by simp [Act.eval]) HJ.out ?_ ?_ ?_ ?_; (rw [List.length_nil]; omega); (exact OwnI.new (heap_new2 (wr.drewN _) _ _) (below_d2 _ _ _ _) (by omega)); (exact S1.out _ (below_d2 _ _ _ _)); intro v1 w1 h1 hc1; have e1 := HCQ.out w1 h1.2.1; have H1 := Lib.hid h1; have K1 := Lib.hid hc1; clear h1 hc1)
                          | (refine step_I (w := wr) rfl (.tmp 52) (.tmp 57) rfl v1 (xs.take j) (by simp [Act.eval]) (some ⟨w1.heap.size, 0, none⟩) 1 1 [x] (by simp [Act.eval]) rfl ?_ ?_ ?_ ?_; (rw [HJ.out]; omega); (exact H1.out.below (below_new1 _ _)); (exact Src.one (heap_new1 _ _)); intro v2 w2 h2 hc2; have e2 := HCQ.out w2 h2.2.1; have H2 := Lib.hid h2; have K2 := Lib.hid hc2; clear h2 hc2)
                          | (refine step_I (w := wr) rfl (.tmp 52) (.tmp 57) rfl v1 (xs.take j) (by simp [Act.eval]) (some ⟨wr.heap.size, 0, none⟩) 1 1 [x] (by simp [Act.eval]) rfl ?_ ?_ ?_ ?_; (rw [HJ.out]; omega); (exact H1.out); (exact Src.one (K1.out.at_ (heap_new3 (wr.drewN _) _ _) (by simp [Value.ownBlock]))); intro v2 w2 h2 hc2; have e2 := HCQ.out w2 h2.2.1; have H2 := Lib.hid h2; have K2 := Lib.hid hc2; clear h2 hc2)
                          | (refine step_I (w := wr) rfl (.tmp 52) (.tmp 57) rfl v1 (xs.take j) (by simp [Act.eval]) (some ⟨(wr.heap.size + 1), 0, none⟩) 1 1 [x] (by simp [Act.eval]) rfl ?_ ?_ ?_ ?_; (rw [HJ.out]; omega); (exact H1.out); (exact Src.one (K1.out.at_ (heap_new2 (wr.drewN _) _ _) (by simp [Value.ownBlock]))); intro v2 w2 h2 hc2; have e2 := HCQ.out w2 h2.2.1; have H2 := Lib.hid h2; have K2 := Lib.hid hc2; clear h2 hc2)
                          | (refine step_I (w := wr) rfl (.tmp 58) (.tmp 61) rfl v2 ((xs.take j) ++ [x]) (by simp [Act.eval]) (some ⟨g, j, none⟩) (m - j) (cap2 - j) (xs.drop j) (by simp [Act.eval]; omega) HD.out ?_ ?_ ?_ ?_; (first | (rw [List.length_append, HJ.out]; simp; omega) | simp); (exact H2.out); (exact S3.out _ H2.out.2.1); intro v3 w3 h3 hc3; have e3 := HCQ.out w3 h3.2.1; have H3 := Lib.hid h3; have K3 := Lib.hid hc3; clear h3 hc3))
                all_goals
                  go_wp2
                  go_roundw
                  case rel => exact ⟨k + 1, by omega, by go_num, by unfold NRel; rw [HX.out, HI2.out, HFN.out]; exact ⟨H3.out.from_ HO.out.2.1, rfl⟩⟩
                  case measure => simp [intOf]; omega
              · have hjm' : j = m := by have := kOfK_le x xs; have := HM.out; omega
                have c1 : decide ((j : Int) < (m : Int)) = false := decide_eq_false (by omega)
                have i1 : (0 : Int) ≤ (j : Int) := by omega
                have HJM := Lib.hid hjm'
                clear hjk hjk' hjm'
                rcases HO.out.1.form with ⟨hnil, h0, -⟩ | ⟨g, cap', hA, -, -, -, -⟩
                · injection hnil with e1 e2 e3
                  subst e1 e2 e3
                  obtain rfl : xs = [] := List.eq_nil_of_length_eq_zero HM.out.symm
                  obtain rfl : j = 0 := HJM.out
                  go_wp2
                  go_quiet (fail)
                  go_wp2
                  have HJ : Hid ((([] : List Int)).length = 0) := Lib.hid (by first | rfl | (rw [List.length_take]; have := HM.out; omega))
                  have HD : Hid ((([] : List Int)).length = 0 - 0) := Lib.hid (by first | rfl | (rw [List.length_drop]; have := HM.out; omega))
                  have S1 : Hid (∀ (W : World), Below wr.heap.size wr W → Src W none 1 0 ((([] : List Int)).map iv)) := Lib.hid fun W hW => by first | exact Src.nil _ _ _ | (rw [List.map_take]; exact (SR.out.take (by omega)).below hW)
                  have S3 : Hid (∀ (W : World), Below wr.heap.size wr W → Src W none 1 (0 - 0) ((([] : List Int)).map iv)) := Lib.hid fun W hW => by first | exact Src.nil _ _ _ | (rw [List.map_drop]; exact (SR.out.drop (by omega) (fun _ => by first | (simp [Addr.add]; done) | (exfalso; omega))).below hW)
                  have HCQ : Hid (∀ W, Below wr.heap.size wr W → W.cell? ⟨b, off + k, none⟩ = some (.int .i64 x)) := Lib.hid fun W hW => HC.out W (HO.out.2.1.trans (hW.mono HO.out.2.1.size))
                  have b1 : (0 : Int) ≤ (0 : Int) := by omega
                  have b2 : (0 : Int) ≤ (0 : Int) := by omega
                  have b3 : (0 : Int) ≤ (0 : Int) := by omega
                  have b4 : (0 : Int) ≤ (0 : Int) := by omega
                  have b5 : 0 ≤ 0 := by omega
                  go_region_held3 (fun w' => w'.cell? ⟨b, off + k, none⟩ = some (.int .i64 x)) (go_keep) (first
                          | (refine step_I (w := wr) rfl (.tmp 48) (.tmp 51) rfl (.slice (some ⟨wr.heap.size, 0, none⟩) 0 0) [] (by simp [Act.eval]) none 0 0 ([] : List Int) (by simp [Act.eval]) HJ.out ?_ ?_ ?_ ?_; (rw [List.length_nil]; omega); (first | exact OwnI.new (heap_new1 (wr.drewN _) _) (below_d1 _ _ _) (Nat.le_refl _) | exact OwnI.new (heap_new3 (wr.drewN _) _ _) (below_d2 _ _ _ _) (Nat.le_refl _)); (first | exact S1.out _ (below_d1 _ _ _) | exact S1.out _ (below_d2 _ _ _ _)); intro v1 w1 h1 hc1; have e1 := HCQ.out w1 h1.2.1; have H1 := Lib.hid h1; have K1 := Lib.hid hc1; clear h1 hc1)
                          | (refine step_I (w := wr) rfl (.tmp 48) (.tmp 51) rfl (.slice (some ⟨wr.heap.size + 1, 0, none⟩) 0 0) [] (by simp [Act.eval]) none 0 0 ([] : List Int) (by simp [Act.eval]) HJ.out ?_ ?_ ?_ ?_; (rw [List.length_nil]; omega); (exact OwnI.new (heap_new2 (wr.drewN _) _ _) (below_d2 _ _ _ _) (by omega)); (exact S1.out _ (below_d2 _ _ _ _)); intro v1 w1 h1 hc1; have e1 := HCQ.out w1 h1.2.1; have H1 := Lib.hid h1; have K1 := Lib.hid hc1; clear h1 hc1)
                          | (refine step_I (w := wr) rfl (.tmp 52) (.tmp 57) rfl v1 ([] : List Int) (by simp [Act.eval]) (some ⟨w1.heap.size, 0, none⟩) 1 1 [x] (by simp [Act.eval]) rfl ?_ ?_ ?_ ?_; (rw [HJ.out]; omega); (exact H1.out.below (below_new1 _ _)); (exact Src.one (heap_new1 _ _)); intro v2 w2 h2 hc2; have e2 := HCQ.out w2 h2.2.1; have H2 := Lib.hid h2; have K2 := Lib.hid hc2; clear h2 hc2)
                          | (refine step_I (w := wr) rfl (.tmp 52) (.tmp 57) rfl v1 ([] : List Int) (by simp [Act.eval]) (some ⟨wr.heap.size, 0, none⟩) 1 1 [x] (by simp [Act.eval]) rfl ?_ ?_ ?_ ?_; (rw [HJ.out]; omega); (exact H1.out); (exact Src.one (K1.out.at_ (heap_new3 (wr.drewN _) _ _) (by simp [Value.ownBlock]))); intro v2 w2 h2 hc2; have e2 := HCQ.out w2 h2.2.1; have H2 := Lib.hid h2; have K2 := Lib.hid hc2; clear h2 hc2)
                          | (refine step_I (w := wr) rfl (.tmp 52) (.tmp 57) rfl v1 ([] : List Int) (by simp [Act.eval]) (some ⟨(wr.heap.size + 1), 0, none⟩) 1 1 [x] (by simp [Act.eval]) rfl ?_ ?_ ?_ ?_; (rw [HJ.out]; omega); (exact H1.out); (exact Src.one (K1.out.at_ (heap_new2 (wr.drewN _) _ _) (by simp [Value.ownBlock]))); intro v2 w2 h2 hc2; have e2 := HCQ.out w2 h2.2.1; have H2 := Lib.hid h2; have K2 := Lib.hid hc2; clear h2 hc2)
                          | (refine step_I (w := wr) rfl (.tmp 58) (.tmp 61) rfl v2 (([] : List Int) ++ [x]) (by simp [Act.eval]) none 0 0 ([] : List Int) (by simp [Act.eval]) HD.out ?_ ?_ ?_ ?_; (first | (rw [List.length_append, HJ.out]; simp; omega) | simp); (exact H2.out); (exact S3.out _ H2.out.2.1); intro v3 w3 h3 hc3; have e3 := HCQ.out w3 h3.2.1; have H3 := Lib.hid h3; have K3 := Lib.hid hc3; clear h3 hc3))
                  all_goals
                    go_wp2
                    go_roundw
                    case rel => exact ⟨k + 1, by omega, by go_num, by unfold NRel; rw [HX.out, HI2.out, HFN.out]; exact ⟨H3.out.from_ HO.out.2.1, rfl⟩⟩
                    case measure => simp [intOf]; omega
                · injection hA with e1 e2 e3
                  subst e1
                  clear e2 e3
                  by_cases hcm : cap2 = m
                  · subst hcm
                    have SR : Hid (Src wr (some ⟨g, 0, none⟩) 1 cap2 (xs.map iv)) := Lib.hid (by rw [HM.out]; exact HO.out.1.src)
                    obtain rfl : j = cap2 := HJM.out
                    have HI3 : Hid (xs.take (kOfK xs x) ++ [x] ++ xs.drop (kOfK xs x) = xs.take j ++ [x] ++ []) := Lib.hid (by rw [HI2.out, List.drop_eq_nil_of_le (show xs.length ≤ j by have := HM.out; omega)])
                    have HI2 := Lib.hid HI3.out
                    go_wp2
                    go_quiet (fail)
                    go_wp2
                    have HJ : Hid (((xs.take j)).length = j) := Lib.hid (by first | rfl | (rw [List.length_take]; have := HM.out; omega))
                    have HD : Hid ((([] : List Int)).length = 0) := Lib.hid (by first | rfl | (rw [List.length_drop]; have := HM.out; omega))
                    have S1 : Hid (∀ (W : World), Below wr.heap.size wr W → Src W (some ⟨g, 0, none⟩) 1 j (((xs.take j)).map iv)) := Lib.hid fun W hW => by first | exact Src.nil _ _ _ | (rw [List.map_take]; exact (SR.out.take (by omega)).below hW)
                    have S3 : Hid (∀ (W : World), Below wr.heap.size wr W → Src W (some ⟨g, 0, none⟩) 1 0 ((([] : List Int)).map iv)) := Lib.hid fun W hW => by first | exact Src.nil _ _ _ | (rw [List.map_drop]; exact (SR.out.drop (by omega) (fun _ => by first | (simp [Addr.add]; done) | (exfalso; omega))).below hW)
                    have HCQ : Hid (∀ W, Below wr.heap.size wr W → W.cell? ⟨b, off + k, none⟩ = some (.int .i64 x)) := Lib.hid fun W hW => HC.out W (HO.out.2.1.trans (hW.mono HO.out.2.1.size))
                    have b1 : (j : Int) ≤ (j : Int) := by omega
                    have b2 : (j : Int) ≤ (j : Int) := by omega
                    have b3 : (0 : Int) ≤ (j : Int) := by omega
                    have b4 : (j : Int) ≤ (j : Int) := by omega
                    have b5 : j ≤ j := by omega
                    go_region_held3 (fun w' => w'.cell? ⟨b, off + k, none⟩ = some (.int .i64 x)) (go_keep) (first
                          | (refine step_I (w := wr) rfl (.tmp 48) (.tmp 51) rfl (.slice (some ⟨wr.heap.size, 0, none⟩) 0 0) [] (by simp [Act.eval]) (some ⟨g, 0, none⟩) j j (xs.take j) (by simp [Act.eval]) HJ.out ?_ ?_ ?_ ?_; (rw [List.length_nil]; omega); (first | exact OwnI.new (heap_new1 (wr.drewN _) _) (below_d1 _ _ _) (Nat.le_refl _) | exact OwnI.new (heap_new3 (wr.drewN _) _ _) (below_d2 _ _ _ _) (Nat.le_refl _)); (first | exact S1.out _ (below_d1 _ _ _) | exact S1.out _ (below_d2 _ _ _ _)); intro v1 w1 h1 hc1; have e1 := HCQ.out w1 h1.2.1; have H1 := Lib.hid h1; have K1 := Lib.hid hc1; clear h1 hc1)
                          | (refine step_I (w := wr) rfl (.tmp 48) (.tmp 51) rfl (.slice (some ⟨wr.heap.size + 1, 0, none⟩) 0 0) [] (by simp [Act.eval]) (some ⟨g, 0, none⟩) j j (xs.take j) (by simp [Act.eval]) HJ.out ?_ ?_ ?_ ?_; (rw [List.length_nil]; omega); (exact OwnI.new (heap_new2 (wr.drewN _) _ _) (below_d2 _ _ _ _) (by omega)); (exact S1.out _ (below_d2 _ _ _ _)); intro v1 w1 h1 hc1; have e1 := HCQ.out w1 h1.2.1; have H1 := Lib.hid h1; have K1 := Lib.hid hc1; clear h1 hc1)
                          | (refine step_I (w := wr) rfl (.tmp 52) (.tmp 57) rfl v1 (xs.take j) (by simp [Act.eval]) (some ⟨w1.heap.size, 0, none⟩) 1 1 [x] (by simp [Act.eval]) rfl ?_ ?_ ?_ ?_; (rw [HJ.out]; omega); (exact H1.out.below (below_new1 _ _)); (exact Src.one (heap_new1 _ _)); intro v2 w2 h2 hc2; have e2 := HCQ.out w2 h2.2.1; have H2 := Lib.hid h2; have K2 := Lib.hid hc2; clear h2 hc2)
                          | (refine step_I (w := wr) rfl (.tmp 52) (.tmp 57) rfl v1 (xs.take j) (by simp [Act.eval]) (some ⟨wr.heap.size, 0, none⟩) 1 1 [x] (by simp [Act.eval]) rfl ?_ ?_ ?_ ?_; (rw [HJ.out]; omega); (exact H1.out); (exact Src.one (K1.out.at_ (heap_new3 (wr.drewN _) _ _) (by simp [Value.ownBlock]))); intro v2 w2 h2 hc2; have e2 := HCQ.out w2 h2.2.1; have H2 := Lib.hid h2; have K2 := Lib.hid hc2; clear h2 hc2)
                          | (refine step_I (w := wr) rfl (.tmp 52) (.tmp 57) rfl v1 (xs.take j) (by simp [Act.eval]) (some ⟨(wr.heap.size + 1), 0, none⟩) 1 1 [x] (by simp [Act.eval]) rfl ?_ ?_ ?_ ?_; (rw [HJ.out]; omega); (exact H1.out); (exact Src.one (K1.out.at_ (heap_new2 (wr.drewN _) _ _) (by simp [Value.ownBlock]))); intro v2 w2 h2 hc2; have e2 := HCQ.out w2 h2.2.1; have H2 := Lib.hid h2; have K2 := Lib.hid hc2; clear h2 hc2)
                          | (refine step_I (w := wr) rfl (.tmp 58) (.tmp 61) rfl v2 ((xs.take j) ++ [x]) (by simp [Act.eval]) (some ⟨g, 0, none⟩) 0 0 ([] : List Int) (by simp [Act.eval]) HD.out ?_ ?_ ?_ ?_; (first | (rw [List.length_append, HJ.out]; simp; omega) | simp); (exact H2.out); (exact S3.out _ H2.out.2.1); intro v3 w3 h3 hc3; have e3 := HCQ.out w3 h3.2.1; have H3 := Lib.hid h3; have K3 := Lib.hid hc3; clear h3 hc3))
                    all_goals
                      go_wp2
                      go_roundw
                      case rel => exact ⟨k + 1, by omega, by go_num, by unfold NRel; rw [HX.out, HI2.out, HFN.out]; exact ⟨H3.out.from_ HO.out.2.1, rfl⟩⟩
                      case measure => simp [intOf]; omega
                  · have SR : Hid (Src wr (some ⟨g, 0, none⟩) 1 m (xs.map iv)) := Lib.hid (by rw [HM.out]; exact HO.out.1.src)
                    have hjm2 : j ≤ m := by have := HJM.out; omega
                    have hne : ¬ cap2 = j := by have := HJM.out; omega
                    have hne' : ¬ (cap2 : Int) = (j : Int) := by omega
                    go_wp2
                    go_quiet (fail)
                    go_wp2
                    have HJ : Hid (((xs.take j)).length = j) := Lib.hid (by first | rfl | (rw [List.length_take]; have := HM.out; omega))
                    have HD : Hid (((xs.drop j)).length = m - j) := Lib.hid (by first | rfl | (rw [List.length_drop]; have := HM.out; omega))
                    have S1 : Hid (∀ (W : World), Below wr.heap.size wr W → Src W (some ⟨g, 0, none⟩) 1 j (((xs.take j)).map iv)) := Lib.hid fun W hW => by first | exact Src.nil _ _ _ | (rw [List.map_take]; exact (SR.out.take (by omega)).below hW)
                    have S3 : Hid (∀ (W : World), Below wr.heap.size wr W → Src W (some ⟨g, j, none⟩) 1 (m - j) (((xs.drop j)).map iv)) := Lib.hid fun W hW => by first | exact Src.nil _ _ _ | (rw [List.map_drop]; exact (SR.out.drop (by omega) (fun _ => by first | (simp [Addr.add]; done) | (exfalso; omega))).below hW)
                    have HCQ : Hid (∀ W, Below wr.heap.size wr W → W.cell? ⟨b, off + k, none⟩ = some (.int .i64 x)) := Lib.hid fun W hW => HC.out W (HO.out.2.1.trans (hW.mono HO.out.2.1.size))
                    have b1 : (j : Int) ≤ (m : Int) := by omega
                    have b2 : (m : Int) ≤ (cap2 : Int) := by omega
                    have b3 : (0 : Int) ≤ (j : Int) := by omega
                    have b4 : (j : Int) ≤ (cap2 : Int) := by omega
                    have b5 : j ≤ cap2 := by omega
                    go_region_held3 (fun w' => w'.cell? ⟨b, off + k, none⟩ = some (.int .i64 x)) (go_keep) (first
                          | (refine step_I (w := wr) rfl (.tmp 48) (.tmp 51) rfl (.slice (some ⟨wr.heap.size, 0, none⟩) 0 0) [] (by simp [Act.eval]) (some ⟨g, 0, none⟩) j cap2 (xs.take j) (by simp [Act.eval]) HJ.out ?_ ?_ ?_ ?_; (rw [List.length_nil]; omega); (first | exact OwnI.new (heap_new1 (wr.drewN _) _) (below_d1 _ _ _) (Nat.le_refl _) | exact OwnI.new (heap_new3 (wr.drewN _) _ _) (below_d2 _ _ _ _) (Nat.le_refl _)); (first | exact S1.out _ (below_d1 _ _ _) | exact S1.out _ (below_d2 _ _ _ _)); intro v1 w1 h1 hc1; have e1 := HCQ.out w1 h1.2.1; have H1 := Lib.hid h1; have K1 := Lib.hid hc1; clear h1 hc1)
                          | (refine step_I (w := wr) rfl (.tmp 48) (.tmp 51) rfl (.slice (some ⟨wr.heap.size + 1, 0, none⟩) 0 0) [] (by simp [Act.eval]) (some ⟨g, 0, none⟩) j cap2 (xs.take j) (by simp [Act.eval]) HJ.out ?_ ?_ ?_ ?_; (rw [List.length_nil]; omega); (exact OwnI.new (heap_new2 (wr.drewN _) _ _) (below_d2 _ _ _ _) (by omega)); (exact S1.out _ (below_d2 _ _ _ _)); intro v1 w1 h1 hc1; have e1 := HCQ.out w1 h1.2.1; have H1 := Lib.hid h1; have K1 := Lib.hid hc1; clear h1 hc1)
                          | (refine step_I (w := wr) rfl (.tmp 52) (.tmp 57) rfl v1 (xs.take j) (by simp [Act.eval]) (some ⟨w1.heap.size, 0, none⟩) 1 1 [x] (by simp [Act.eval]) rfl ?_ ?_ ?_ ?_; (rw [HJ.out]; omega); (exact H1.out.below (below_new1 _ _)); (exact Src.one (heap_new1 _ _)); intro v2 w2 h2 hc2; have e2 := HCQ.out w2 h2.2.1; have H2 := Lib.hid h2; have K2 := Lib.hid hc2; clear h2 hc2)
                          | (refine step_I (w := wr) rfl (.tmp 52) (.tmp 57) rfl v1 (xs.take j) (by simp [Act.eval]) (some ⟨wr.heap.size, 0, none⟩) 1 1 [x] (by simp [Act.eval]) rfl ?_ ?_ ?_ ?_; (rw [HJ.out]; omega); (exact H1.out); (exact Src.one (K1.out.at_ (heap_new3 (wr.drewN _) _ _) (by simp [Value.ownBlock]))); intro v2 w2 h2 hc2; have e2 := HCQ.out w2 h2.2.1; have H2 := Lib.hid h2; have K2 := Lib.hid hc2; clear h2 hc2)
                          | (refine step_I (w := wr) rfl (.tmp 52) (.tmp 57) rfl v1 (xs.take j) (by simp [Act.eval]) (some ⟨(wr.heap.size + 1), 0, none⟩) 1 1 [x] (by simp [Act.eval]) rfl ?_ ?_ ?_ ?_; (rw [HJ.out]; omega); (exact H1.out); (exact Src.one (K1.out.at_ (heap_new2 (wr.drewN _) _ _) (by simp [Value.ownBlock]))); intro v2 w2 h2 hc2; have e2 := HCQ.out w2 h2.2.1; have H2 := Lib.hid h2; have K2 := Lib.hid hc2; clear h2 hc2)
                          | (refine step_I (w := wr) rfl (.tmp 58) (.tmp 61) rfl v2 ((xs.take j) ++ [x]) (by simp [Act.eval]) (some ⟨g, j, none⟩) (m - j) (cap2 - j) (xs.drop j) (by simp [Act.eval]) HD.out ?_ ?_ ?_ ?_; (first | (rw [List.length_append, HJ.out]; simp; omega) | simp); (exact H2.out); (exact S3.out _ H2.out.2.1); intro v3 w3 h3 hc3; have e3 := HCQ.out w3 h3.2.1; have H3 := Lib.hid h3; have K3 := Lib.hid hc3; clear h3 hc3))
                    all_goals
                      go_wp2
                      go_roundw
                      case rel => exact ⟨k + 1, by omega, by go_num, by unfold NRel; rw [HX.out, HI2.out, HFN.out]; exact ⟨H3.out.from_ HO.out.2.1, rfl⟩⟩
                      case measure => simp [intOf]; omega
      · have HX : Hid (normC (l.take (k + 1)) = xs) := Lib.hid (HN1.out rfl).1
        have HFN : Hid (fineC (l.take (k + 1)) = fk) := Lib.hid (HN1.out rfl).2
        go_wp2_with ((go_at_call 50; refine (HAS.out).mono ?_; rintro e w' ⟨rfl, rfl⟩))
        go_roundw
        case rel => exact ⟨k + 1, by omega, by go_num, by unfold NRel; rw [HX.out, HFN.out]; exact ⟨HO.out, rfl⟩⟩
        case measure => simp [intOf]; omega
    · have hkn : k = n := by omega
      have HR : Hid (OwnI w wr u4 (normC l)) := Lib.hid (by rw [hkn, HN.out, List.take_length] at hrel; exact hrel)
      have HF : Hid (fineC (l.take k) = ans) := Lib.hid (by rw [hkn, HN.out, List.take_length, HA.out])
      clear hrel hkn
      go_wp2
      go_ret2
      exact ⟨u4, by rw [← HF.out]; rfl, HR.out⟩
end Go.Proofs.Ytghlgegfokjgbaa
