/-
  The document's Norm (astrariumref17), walked for any numbers whatever: that it comes to a list and a truth value.
-/
import Derived.Test.YtghlgegfokjgbaaR17N
namespace Go.Proofs.Ytghlgegfokjgbaa
open Go.ChangeShapes Go.WideShapes Go.ChangeAt Go.RowKit
set_option linter.unusedVariables false
attribute [local go_sem ↓] Go.wp_at_zero Go.wp_at_succ
def absW (x : Int) : Int := if x < 0 then wrap64 (-x) else x
theorem r17_AbsW (x : Int) (w : World) : Calls Try.prog 21 #[.int .i64 x] w fun e w' => e = .returned (.int .i64 (absW x)) ∧ w = w' := by
  by_cases hx : x < 0
  · have e : absW x = wrap64 (-x) := by unfold absW; rw [if_pos hx]
    rw [e]
    clear e
    go_enter Try.func21, Try.ntmps21
    go_wp2
    go_ret
    exact ⟨rfl, rfl⟩
  · have e : absW x = x := by unfold absW; rw [if_neg hx]
    rw [e]
    clear e
    go_enter Try.func21, Try.ntmps21
    go_wp2
    go_ret
    exact ⟨rfl, rfl⟩
def befW (x y : Int) : Bool := decide (absW x < absW y ∨ (absW x = absW y ∧ y < x))
theorem r17_beforeW (x y : Int) (w : World) : Calls Try.prog 51 #[.int .i64 x, .int .i64 y] w fun e w' => e = .returned (.bool (befW x y)) ∧ w' = w := by
  obtain ⟨a, ha⟩ : ∃ a, a = absW x := ⟨_, rfl⟩
  obtain ⟨b, hb⟩ : ∃ b, b = absW y := ⟨_, rfl⟩
  have A1 := Lib.hid (r17_AbsW x w)
  have A2 := Lib.hid (r17_AbsW y w)
  rw [← ha] at A1
  rw [← hb] at A2
  have hk : (absW x < absW y ∨ (absW x = absW y ∧ y < x)) ↔ (absW x < absW y ∨ (absW x = absW y ∧ y < x)) := Iff.rfl
  rw [← ha, ← hb] at hk
  rcases Int.lt_trichotomy a b with h | h | h
  · have e : befW x y = true := by unfold befW; rw [← ha, ← hb]; exact decide_eq_true (.inl h)
    have c1 : decide (a < b) = true := decide_eq_true h
    have E := Lib.hid e
    clear hk ha hb e h
    go_enter Try.func51, Try.ntmps51
    go_wp2_with fail
    refine A1.out.mono ?_
    rintro e w1 ⟨rfl, rfl⟩
    go_wp2_with ((go_at_call 21; refine (A2.out).mono ?_; rintro e w' ⟨rfl, rfl⟩))
    go_ret
    exact ⟨by rw [E.out]; rfl, rfl⟩
  · subst h
    have c1 : decide (a < a) = false := decide_eq_false (by omega)
    by_cases hyx : y < x
    · have e : befW x y = true := by unfold befW; rw [← ha, ← hb]; exact decide_eq_true (.inr ⟨rfl, hyx⟩)
      have c2 : decide (y < x) = true := decide_eq_true hyx
      have E := Lib.hid e
      clear hk ha hb e hyx
      go_enter Try.func51, Try.ntmps51
      go_wp2_with fail
      refine A1.out.mono ?_
      rintro e w1 ⟨rfl, rfl⟩
      go_wp2_with fail
      refine A2.out.mono ?_
      rintro e w1 ⟨rfl, rfl⟩
      go_wp2_with fail
      refine A1.out.mono ?_
      rintro e w1 ⟨rfl, rfl⟩
      go_wp2_with ((go_at_call 21; refine (A2.out).mono ?_; rintro e w' ⟨rfl, rfl⟩))
      go_ret
      exact ⟨by rw [E.out]; rfl, rfl⟩
    · have e : befW x y = false := by unfold befW; rw [← ha, ← hb]; exact decide_eq_false (by omega)
      have c2 : decide (y < x) = false := decide_eq_false hyx
      have E := Lib.hid e
      clear hk ha hb e hyx
      go_enter Try.func51, Try.ntmps51
      go_wp2_with fail
      refine A1.out.mono ?_
      rintro e w1 ⟨rfl, rfl⟩
      go_wp2_with fail
      refine A2.out.mono ?_
      rintro e w1 ⟨rfl, rfl⟩
      go_wp2_with fail
      refine A1.out.mono ?_
      rintro e w1 ⟨rfl, rfl⟩
      go_wp2_with ((go_at_call 21; refine (A2.out).mono ?_; rintro e w' ⟨rfl, rfl⟩))
      go_ret
      exact ⟨by rw [E.out]; rfl, rfl⟩
  · have e : befW x y = false := by unfold befW; rw [← ha, ← hb]; exact decide_eq_false (by omega)
    have c1 : decide (a < b) = false := decide_eq_false (by omega)
    have c2 : (a == b) = false := by rw [beq_eq_false_iff_ne]; omega
    have E := Lib.hid e
    clear hk ha hb e h
    go_enter Try.func51, Try.ntmps51
    go_wp2_with fail
    refine A1.out.mono ?_
    rintro e w1 ⟨rfl, rfl⟩
    go_wp2_with fail
    refine A2.out.mono ?_
    rintro e w1 ⟨rfl, rfl⟩
    go_wp2_with fail
    refine A1.out.mono ?_
    rintro e w1 ⟨rfl, rfl⟩
    go_wp2_with ((go_at_call 21; refine (A2.out).mono ?_; rintro e w' ⟨rfl, rfl⟩))
    go_ret
    exact ⟨by rw [E.out]; rfl, rfl⟩
def kW : List Int → Int → Nat
  | [], _ => 0
  | y :: r, x => if befW y x = true then kW r x + 1 else 0
theorem kW_le (x : Int) : ∀ xs : List Int, kW xs x ≤ xs.length
  | [] => by simp [kW]
  | y :: r => by
    unfold kW
    have := kW_le x r
    split <;> simp <;> omega
theorem kW_lt (x : Int) : ∀ (xs : List Int) (j : Nat), j < kW xs x → befW (xs.getD j 0) x = true
  | [], j, h => by simp [kW] at h
  | y :: r, j, h => by
    unfold kW at h
    split at h
    · rename_i hy
      cases j with
      | zero => simpa using hy
      | succ j => have := kW_lt x r j (by omega); simpa using this
    · omega
theorem kW_at (x : Int) : ∀ (xs : List Int), kW xs x < xs.length → befW (xs.getD (kW xs x) 0) x = false
  | [], h => by simp at h
  | y :: r, h => by
    unfold kW at h ⊢
    by_cases hy : befW y x = true
    · rw [if_pos hy] at h ⊢
      have := kW_at x r (by simpa using h)
      simpa using this
    · rw [if_neg hy]
      simpa using hy
def insW (xs : List Int) (x : Int) : List Int := if xs.contains x = true then xs else xs.take (kW xs x) ++ [x] ++ xs.drop (kW xs x)
def normW (l : List Int) : List Int := l.foldl insW []
theorem normW_snoc (l : List Int) (x : Int) : normW (l ++ [x]) = insW (normW l) x := by unfold normW; rw [List.foldl_append]; rfl
theorem insW_len (xs : List Int) (x : Int) : (insW xs x).length ≤ xs.length + 1 := by
  unfold insW
  split
  · omega
  · have := kW_le x xs
    simp
    omega
theorem normW_len : ∀ (k : Nat) (l : List Int), (normW (l.take k)).length ≤ k
  | 0, l => by simp [normW]
  | k + 1, l => by
    rcases Nat.lt_or_ge k l.length with h | h
    · rw [List.take_succ_eq_append_getElem h, normW_snoc]
      have := normW_len k l
      have := insW_len (normW (l.take k)) l[k]
      omega
    · rw [List.take_of_length_le (by omega)]
      have := normW_len k l
      rw [List.take_of_length_le h] at this
      omega
def NRelW (l : List Int) (k : Nat) (w wr : World) (out fine : Value) : Prop := OwnI w wr out (normW (l.take k)) ∧ ∃ b, fine = .bool b
set_option maxHeartbeats 4000000 in
set_option maxRecDepth 100000 in
theorem r17_NormW {w : World} {v : Value} {l : List Int} (h : Ints w v l) (hs : l.length ≤ 1000000) :
    Calls Try.prog 25 #[v] w fun e w' => ∃ u b, e = .returned (.tuple #[u, .bool b]) ∧ OwnI w w' u (normW l) := by
  obtain ⟨a, cap, rfl, -, hc1, hc2, hv⟩ := h
  obtain ⟨n, hn⟩ : ∃ n, n = l.length := ⟨_, rfl⟩
  rw [← hn] at hc1 hs ⊢
  have HN := Lib.hid hn
  have HV := Lib.hid hv
  clear hv hn hc1 hc2
  go_enter Try.func25, Try.ntmps25
  go_wp2
  go_loopw [4, 5, 6, 7] (fun out fine i _ wr => ∃ k : Nat, k ≤ n ∧ i = .int .i64 k ∧ NRelW l k w wr out fine) (fun _ _ i _ _ => n - (intOf i).toNat)
  case atStart => exact ⟨0, Nat.zero_le _, rfl, OwnI.start w, _, rfl⟩
  case round =>
    obtain ⟨k, hk, rfl, hrel, fk, rfl⟩ := hrel
    by_cases hlt : (k : Int) < (n : Int)
    · have hkn : k < l.length := by have := HN.out; omega
      obtain ⟨b, off, rfl, hcell⟩ := ints_cells HV.out hkn
      obtain ⟨x, hx⟩ : ∃ x, x = l.getD k 0 := ⟨_, rfl⟩
      have htk : normW (l.take (k + 1)) = insW (normW (l.take k)) x := by rw [hx, take_snocI hkn]; exact normW_snoc _ _
      have hnl := normW_len k l
      obtain ⟨xs, hxs'⟩ : ∃ xs, xs = normW (l.take k) := ⟨_, rfl⟩
      have hlen : xs.length ≤ k := by rw [hxs']; exact hnl
      rw [← hxs'] at hrel htk hnl
      rw [← hx] at hcell
      have hn1 : xs.contains x = true → normW (l.take (k + 1)) = xs := fun h => by rw [htk]; unfold insW; rw [if_pos h]
      have hn2 : xs.contains x = false → normW (l.take (k + 1)) = xs.take (kW xs x) ++ [x] ++ xs.drop (kW xs x) := fun h => by rw [htk]; unfold insW; rw [h]; rfl
      obtain ⟨A, cap2, rfl, hcp1, hcp2⟩ := hrel.form
      have hint := hrel.ints
      obtain ⟨m, hm⟩ : ∃ m, m = xs.length := ⟨_, rfl⟩
      rw [← hm] at hlen hcp1 hrel hint ⊢
      have q1 := hcell wr hrel.2.1
      have HAS := Lib.hid (r17_Has hint x)
      have HAN := Lib.hid (fun y => r17_Has hint y)
      have HC := Lib.hid hcell
      have HO := Lib.hid hrel
      have HM := Lib.hid hm
      have HN1 := Lib.hid hn1
      have HN2 := Lib.hid hn2
      have hm9 : m ≤ 9223372036854775807 := by omega
      obtain ⟨has, hhas2⟩ : ∃ b, b = xs.contains x := ⟨_, rfl⟩
      rw [← hhas2] at HAS HN1 HN2
      clear hcell hrel hx hxs' hm hkn hint hnl hn1 hn2 htk hhas2
      cases has
      · have HX : Hid (normW (l.take (k + 1)) = xs.take (kW xs x) ++ [x] ++ xs.drop (kW xs x)) := Lib.hid (HN2.out rfl)
        cases fk
        all_goals
          go_wp2_with fail
          refine HAS.out.mono ?_
          rintro e w1 ⟨rfl, rfl⟩
          go_wp2_with ((go_at_call 50; refine (HAN.out _).mono ?_; rintro e w' ⟨rfl, rfl⟩))
          obtain ⟨wo, rfl⟩ : ∃ wo : World, wo = wr := ⟨_, rfl⟩
          go_loopw [7] (fun t ws => ∃ j : Nat, j ≤ kW xs x ∧ t = .int .i64 j ∧ ∃ nq, ws = wo.drewN nq) (fun t _ => m - (intOf t).toNat)
          case atStart => exact ⟨0, Nat.zero_le _, rfl, 0, rfl⟩
          case round =>
            obtain ⟨j, hj, rfl, hq⟩ := hrel
            have hbel : Below wo.heap.size wo wr := by obtain ⟨n0, rfl⟩ := hq; exact below_drewN (Below.refl _ _) n0
            have HQ := Lib.hid hq
            have q9 := HC.out wr (HO.out.2.1.trans (hbel.mono HO.out.2.1.size))
            have HO := Lib.hid (HO.out.below hbel)
            clear hq hbel
            by_cases hjk : j < kW xs x
            · have hjm : j < m := by have := kW_le x xs; have := HM.out; omega
              have hlt2 := kW_lt x xs j hjk
              obtain ⟨g, rfl, q2, -⟩ := HO.out.1.cellI HM.out hjm
              have hys := True.intro
              obtain ⟨y, hy⟩ : ∃ y, y = xs.getD j 0 := ⟨_, rfl⟩
              rw [← hy] at q2 hlt2
              have HB : Hid (∀ W, Calls Try.prog 51 #[.int .i64 y, .int .i64 x] W fun e w' => e = .returned (.bool true) ∧ w' = W) := Lib.hid fun W => by
                have := r17_beforeW y x W
                rw [hlt2] at this
                exact this
              have c1 : decide ((j : Int) < (m : Int)) = true := decide_eq_true (by omega)
              have i1 : (0 : Int) ≤ (j : Int) := by omega
              have i2 : (j : Int) < (m : Int) := by omega
              have i3 : (0 : Int) ≤ (k : Int) := by omega
              clear hy hlt2 hys
              go_wp2
              go_quiet ((go_at_call 51; exact Calls.quiet_of_same (HB.out _)))
              go_wp2
              go_roundw
              case rel =>
                refine ⟨j + 1, by omega, by go_num, ?_⟩
                obtain ⟨n0, e0⟩ := HQ.out
                exact ⟨_, by rw [e0]; exact World.drewN_drewN _ _ _⟩
              case measure => simp [intOf]; omega
            · have hjk' : j = kW xs x := by omega
              have i3 : (0 : Int) ≤ (k : Int) := by omega
              have HI2 : Hid (xs.take (kW xs x) ++ [x] ++ xs.drop (kW xs x) = xs.take j ++ [x] ++ xs.drop j) := Lib.hid (by rw [hjk'])
              by_cases hjm : j < m
              · have hle := kW_at x xs (by rw [← hjk']; have := HM.out; omega)
                rw [← hjk'] at hle
                obtain ⟨g, rfl, q2, -⟩ := HO.out.1.cellI HM.out hjm
                have hys := True.intro
                obtain ⟨y, hy⟩ : ∃ y, y = xs.getD j 0 := ⟨_, rfl⟩
                rw [← hy] at q2 hle
                have HB : Hid (∀ W, Calls Try.prog 51 #[.int .i64 y, .int .i64 x] W fun e w' => e = .returned (.bool false) ∧ w' = W) := Lib.hid fun W => by
                  have := r17_beforeW y x W
                  rw [hle] at this
                  exact this
                have c1 : decide ((j : Int) < (m : Int)) = true := decide_eq_true (by omega)
                have i1 : (0 : Int) ≤ (j : Int) := by omega
                have i2 : (j : Int) < (m : Int) := by omega
                clear hy hle hys hjk hjk'
                go_wp2
                go_quiet ((go_at_call 51; exact Calls.quiet_of_same (HB.out _)))
                go_wp2
                have SR : Hid (Src wr (some ⟨g, 0, none⟩) 1 m (xs.map iv)) := Lib.hid (by rw [HM.out]; exact HO.out.1.src)
                have HJ : Hid (((xs.take j)).length = j) := Lib.hid (by first | rfl | (rw [List.length_take]; have := HM.out; omega))
                have HD : Hid (((xs.drop j)).length = m - j) := Lib.hid (by first | rfl | (rw [List.length_drop]; have := HM.out; omega))
                have S1 : Hid (∀ (W : World), Below wr.heap.size wr W → Src W (some ⟨g, 0, none⟩) 1 j (((xs.take j)).map iv)) := Lib.hid fun W hW => by first | exact Src.nil _ _ _ | (rw [List.map_take]; exact (SR.out.take (by omega)).below hW)
                have S3 : Hid (∀ (W : World), Below wr.heap.size wr W → Src W (some ⟨g, j, none⟩) 1 (m - j) (((xs.drop j)).map iv)) := Lib.hid fun W hW => by first | exact Src.nil _ _ _ | (rw [List.map_drop]; exact (SR.out.drop (by omega) (fun _ => by first | (simp [Addr.add]; done) | (exfalso; omega))).below hW)
                have HCQ : Hid (∀ W, Below wr.heap.size wr W → W.cell? ⟨b, off + k, none⟩ = some (.int .i64 x)) := Lib.hid fun W hW => HC.out W (HO.out.2.1.trans (hW.mono HO.out.2.1.size))
                have b1 : (j : Int) ≤ (m : Int) := by omega
                have b2 : (m : Int) ≤ (cap2 : Int) := by omega
                have b3 : (0 : Int) ≤ (j : Int) := by omega
                have b4 : (j : Int) ≤ (cap2 : Int) := by omega
                have b5 : j ≤ cap2 := by omega
                go_region_held3 (fun w' => w'.cell? ⟨b, off + k, none⟩ = some (.int .i64 x)) (go_keep) (first
                          | (refine step_I (w := wr) rfl (.tmp 48) (.tmp 51) rfl (.slice (some ⟨wr.heap.size, 0, none⟩) 0 0) [] (by simp [Act.eval]) (some ⟨g, 0, none⟩) j cap2 (xs.take j) (by simp [Act.eval]) HJ.out ?_ ?_ ?_ ?_; (rw [List.length_nil]; omega); (first | exact OwnI.new (heap_new1 (wr.drewN _) _) (below_d1 _ _ _) (Nat.le_refl _) | exact OwnI.new (heap_new3 (wr.drewN _) _ _) (below_d2 _ _ _ _) (Nat.le_refl _)); (first | exact S1.out _ (below_d1 _ _ _) | exact S1.out _ (below_d2 _ _ _ _)); intro v1 w1 h1 hc1; have e1 := HCQ.out w1 h1.2.1; have H1 := Lib.hid h1; have K1 := Lib.hid hc1; clear h1 hc1)
                          | (refine step_I (w := wr) rfl (.tmp 48) (.tmp 51) rfl (.slice (some ⟨wr.heap.size + 1, 0, none⟩) 0 0) [] (by simp [Act.eval]) (some ⟨g, 0, none⟩) j cap2 (xs.take j) (by simp [Act.eval]) HJ.out ?_ ?_ ?_ ?_; (rw [List.length_nil]; omega); (exact OwnI.new (heap_new2 (wr.drewN _) _ _) (below_d2 _ _ _ _) (by omega)); (exact S1.out _ (below_d2 _ _ _ _)); intro v1 w1 h1 hc1; have e1 := HCQ.out w1 h1.2.1; have H1 := Lib.hid h1; have K1 := Lib.hid hc1; clear h1 hc1)
                          | (refine step_I (w := wr) rfl (.tmp 52) (.tmp 57) rfl v1 (xs.take j) (by simp [Act.eval]) (some ⟨w1.heap.size, 0, none⟩) 1 1 [x] (by simp [Act.eval]) rfl ?_ ?_ ?_ ?_; (rw [HJ.out]; omega); (exact H1.out.below (below_new1 _ _)); (exact Src.one (heap_new1 _ _)); intro v2 w2 h2 hc2; have e2 := HCQ.out w2 h2.2.1; have H2 := Lib.hid h2; have K2 := Lib.hid hc2; clear h2 hc2)
                          | (refine step_I (w := wr) rfl (.tmp 52) (.tmp 57) rfl v1 (xs.take j) (by simp [Act.eval]) (some ⟨wr.heap.size, 0, none⟩) 1 1 [x] (by simp [Act.eval]) rfl ?_ ?_ ?_ ?_; (rw [HJ.out]; omega); (exact H1.out); (exact Src.one (K1.out.at_ (heap_new3 (wr.drewN _) _ _) (by simp [Value.ownBlock]))); intro v2 w2 h2 hc2; have e2 := HCQ.out w2 h2.2.1; have H2 := Lib.hid h2; have K2 := Lib.hid hc2; clear h2 hc2)
                          | (refine step_I (w := wr) rfl (.tmp 52) (.tmp 57) rfl v1 (xs.take j) (by simp [Act.eval]) (some ⟨(wr.heap.size + 1), 0, none⟩) 1 1 [x] (by simp [Act.eval]) rfl ?_ ?_ ?_ ?_; (rw [HJ.out]; omega); (exact H1.out); (exact Src.one (K1.out.at_ (heap_new2 (wr.drewN _) _ _) (by simp [Value.ownBlock]))); intro v2 w2 h2 hc2; have e2 := HCQ.out w2 h2.2.1; have H2 := Lib.hid h2; have K2 := Lib.hid hc2; clear h2 hc2)
                          | (refine step_I (w := wr) rfl (.tmp 58) (.tmp 61) rfl v2 ((xs.take j) ++ [x]) (by simp [Act.eval]) (some ⟨g, j, none⟩) (m - j) (cap2 - j) (xs.drop j) (by simp [Act.eval]; omega) HD.out ?_ ?_ ?_ ?_; (first | (rw [List.length_append, HJ.out]; simp; omega) | simp); (exact H2.out); (exact S3.out _ H2.out.2.1); intro v3 w3 h3 hc3; have e3 := HCQ.out w3 h3.2.1; have H3 := Lib.hid h3; have K3 := Lib.hid hc3; clear h3 hc3))
                all_goals
                  go_wp2
                  go_roundw
                  case rel => exact ⟨k + 1, by omega, by go_num, by unfold NRelW; rw [HX.out, HI2.out]; exact ⟨H3.out.from_ HO.out.2.1, _, rfl⟩⟩
                  case measure => simp [intOf]; omega
              · have hjm' : j = m := by have := kW_le x xs; have := HM.out; omega
                have c1 : decide ((j : Int) < (m : Int)) = false := decide_eq_false (by omega)
                have i1 : (0 : Int) ≤ (j : Int) := by omega
                have HJM := Lib.hid hjm'
                clear hjk hjk' hjm'
                rcases HO.out.1.form with ⟨hnil, h0, -⟩ | ⟨g, cap', hA, -, -, -, -⟩
                · injection hnil with e1 e2 e3
                  subst e1 e2 e3
                  obtain rfl : xs = [] := List.eq_nil_of_length_eq_zero HM.out.symm
                  obtain rfl : j = 0 := HJM.out
                  go_wp2
                  go_quiet (fail)
                  go_wp2
                  have HJ : Hid ((([] : List Int)).length = 0) := Lib.hid (by first | rfl | (rw [List.length_take]; have := HM.out; omega))
                  have HD : Hid ((([] : List Int)).length = 0 - 0) := Lib.hid (by first | rfl | (rw [List.length_drop]; have := HM.out; omega))
                  have S1 : Hid (∀ (W : World), Below wr.heap.size wr W → Src W none 1 0 ((([] : List Int)).map iv)) := Lib.hid fun W hW => by first | exact Src.nil _ _ _ | (rw [List.map_take]; exact (SR.out.take (by omega)).below hW)
                  have S3 : Hid (∀ (W : World), Below wr.heap.size wr W → Src W none 1 (0 - 0) ((([] : List Int)).map iv)) := Lib.hid fun W hW => by first | exact Src.nil _ _ _ | (rw [List.map_drop]; exact (SR.out.drop (by omega) (fun _ => by first | (simp [Addr.add]; done) | (exfalso; omega))).below hW)
                  have HCQ : Hid (∀ W, Below wr.heap.size wr W → W.cell? ⟨b, off + k, none⟩ = some (.int .i64 x)) := Lib.hid fun W hW => HC.out W (HO.out.2.1.trans (hW.mono HO.out.2.1.size))
                  have b1 : (0 : Int) ≤ (0 : Int) := by omega
                  have b2 : (0 : Int) ≤ (0 : Int) := by omega
                  have b3 : (0 : Int) ≤ (0 : Int) := by omega
                  have b4 : (0 : Int) ≤ (0 : Int) := by omega
                  have b5 : 0 ≤ 0 := by omega
                  go_region_held3 (fun w' => w'.cell? ⟨b, off + k, none⟩ = some (.int .i64 x)) (go_keep) (first
                          | (refine step_I (w := wr) rfl (.tmp 48) (.tmp 51) rfl (.slice (some ⟨wr.heap.size, 0, none⟩) 0 0) [] (by simp [Act.eval]) none 0 0 ([] : List Int) (by simp [Act.eval]) HJ.out ?_ ?_ ?_ ?_; (rw [List.length_nil]; omega); (first | exact OwnI.new (heap_new1 (wr.drewN _) _) (below_d1 _ _ _) (Nat.le_refl _) | exact OwnI.new (heap_new3 (wr.drewN _) _ _) (below_d2 _ _ _ _) (Nat.le_refl _)); (first | exact S1.out _ (below_d1 _ _ _) | exact S1.out _ (below_d2 _ _ _ _)); intro v1 w1 h1 hc1; have e1 := HCQ.out w1 h1.2.1; have H1 := Lib.hid h1; have K1 := Lib.hid hc1; clear h1 hc1)
                          | (refine step_I (w := wr) rfl (.tmp 48) (.tmp 51) rfl (.slice (some ⟨wr.heap.size + 1, 0, none⟩) 0 0) [] (by simp [Act.eval]) none 0 0 ([] : List Int) (by simp [Act.eval]) HJ.out ?_ ?_ ?_ ?_; (rw [List.length_nil]; omega); (exact OwnI.new (heap_new2 (wr.drewN _) _ _) (below_d2 _ _ _ _) (by omega)); (exact S1.out _ (below_d2 _ _ _ _)); intro v1 w1 h1 hc1; have e1 := HCQ.out w1 h1.2.1; have H1 := Lib.hid h1; have K1 := Lib.hid hc1; clear h1 hc1)
                          | (refine step_I (w := wr) rfl (.tmp 52) (.tmp 57) rfl v1 ([] : List Int) (by simp [Act.eval]) (some ⟨w1.heap.size, 0, none⟩) 1 1 [x] (by simp [Act.eval]) rfl ?_ ?_ ?_ ?_; (rw [HJ.out]; omega); (exact H1.out.below (below_new1 _ _)); (exact Src.one (heap_new1 _ _)); intro v2 w2 h2 hc2; have e2 := HCQ.out w2 h2.2.1; have H2 := Lib.hid h2; have K2 := Lib.hid hc2; clear h2 hc2)
                          | (refine step_I (w := wr) rfl (.tmp 52) (.tmp 57) rfl v1 ([] : List Int) (by simp [Act.eval]) (some ⟨wr.heap.size, 0, none⟩) 1 1 [x] (by simp [Act.eval]) rfl ?_ ?_ ?_ ?_; (rw [HJ.out]; omega); (exact H1.out); (exact Src.one (K1.out.at_ (heap_new3 (wr.drewN _) _ _) (by simp [Value.ownBlock]))); intro v2 w2 h2 hc2; have e2 := HCQ.out w2 h2.2.1; have H2 := Lib.hid h2; have K2 := Lib.hid hc2; clear h2 hc2)
                          | (refine step_I (w := wr) rfl (.tmp 52) (.tmp 57) rfl v1 ([] : List Int) (by simp [Act.eval]) (some ⟨(wr.heap.size + 1), 0, none⟩) 1 1 [x] (by simp [Act.eval]) rfl ?_ ?_ ?_ ?_; (rw [HJ.out]; omega); (exact H1.out); (exact Src.one (K1.out.at_ (heap_new2 (wr.drewN _) _ _) (by simp [Value.ownBlock]))); intro v2 w2 h2 hc2; have e2 := HCQ.out w2 h2.2.1; have H2 := Lib.hid h2; have K2 := Lib.hid hc2; clear h2 hc2)
                          | (refine step_I (w := wr) rfl (.tmp 58) (.tmp 61) rfl v2 (([] : List Int) ++ [x]) (by simp [Act.eval]) none 0 0 ([] : List Int) (by simp [Act.eval]) HD.out ?_ ?_ ?_ ?_; (first | (rw [List.length_append, HJ.out]; simp; omega) | simp); (exact H2.out); (exact S3.out _ H2.out.2.1); intro v3 w3 h3 hc3; have e3 := HCQ.out w3 h3.2.1; have H3 := Lib.hid h3; have K3 := Lib.hid hc3; clear h3 hc3))
                  all_goals
                    go_wp2
                    go_roundw
                    case rel => exact ⟨k + 1, by omega, by go_num, by unfold NRelW; rw [HX.out, HI2.out]; exact ⟨H3.out.from_ HO.out.2.1, _, rfl⟩⟩
                    case measure => simp [intOf]; omega
                · injection hA with e1 e2 e3
                  subst e1
                  clear e2 e3
                  by_cases hcm : cap2 = m
                  · subst hcm
                    have SR : Hid (Src wr (some ⟨g, 0, none⟩) 1 cap2 (xs.map iv)) := Lib.hid (by rw [HM.out]; exact HO.out.1.src)
                    obtain rfl : j = cap2 := HJM.out
                    have HI3 : Hid (xs.take (kW xs x) ++ [x] ++ xs.drop (kW xs x) = xs.take j ++ [x] ++ []) := Lib.hid (by rw [HI2.out, List.drop_eq_nil_of_le (show xs.length ≤ j by have := HM.out; omega)])
                    have HI2 := Lib.hid HI3.out
                    go_wp2
                    go_quiet (fail)
                    go_wp2
                    have HJ : Hid (((xs.take j)).length = j) := Lib.hid (by first | rfl | (rw [List.length_take]; have := HM.out; omega))
                    have HD : Hid ((([] : List Int)).length = 0) := Lib.hid (by first | rfl | (rw [List.length_drop]; have := HM.out; omega))
                    have S1 : Hid (∀ (W : World), Below wr.heap.size wr W → Src W (some ⟨g, 0, none⟩) 1 j (((xs.take j)).map iv)) := Lib.hid fun W hW => by first | exact Src.nil _ _ _ | (rw [List.map_take]; exact (SR.out.take (by omega)).below hW)
                    have S3 : Hid (∀ (W : World), Below wr.heap.size wr W → Src W (some ⟨g, 0, none⟩) 1 0 ((([] : List Int)).map iv)) := Lib.hid fun W hW => by first | exact Src.nil _ _ _ | (rw [List.map_drop]; exact (SR.out.drop (by omega) (fun _ => by first | (simp [Addr.add]; done) | (exfalso; omega))).below hW)
                    have HCQ : Hid (∀ W, Below wr.heap.size wr W → W.cell? ⟨b, off + k, none⟩ = some (.int .i64 x)) := Lib.hid fun W hW => HC.out W (HO.out.2.1.trans (hW.mono HO.out.2.1.size))
                    have b1 : (j : Int) ≤ (j : Int) := by omega
                    have b2 : (j : Int) ≤ (j : Int) := by omega
                    have b3 : (0 : Int) ≤ (j : Int) := by omega
                    have b4 : (j : Int) ≤ (j : Int) := by omega
                    have b5 : j ≤ j := by omega
                    go_region_held3 (fun w' => w'.cell? ⟨b, off + k, none⟩ = some (.int .i64 x)) (go_keep) (first
                          | (refine step_I (w := wr) rfl (.tmp 48) (.tmp 51) rfl (.slice (some ⟨wr.heap.size, 0, none⟩) 0 0) [] (by simp [Act.eval]) (some ⟨g, 0, none⟩) j j (xs.take j) (by simp [Act.eval]) HJ.out ?_ ?_ ?_ ?_; (rw [List.length_nil]; omega); (first | exact OwnI.new (heap_new1 (wr.drewN _) _) (below_d1 _ _ _) (Nat.le_refl _) | exact OwnI.new (heap_new3 (wr.drewN _) _ _) (below_d2 _ _ _ _) (Nat.le_refl _)); (first | exact S1.out _ (below_d1 _ _ _) | exact S1.out _ (below_d2 _ _ _ _)); intro v1 w1 h1 hc1; have e1 := HCQ.out w1 h1.2.1; have H1 := Lib.hid h1; have K1 := Lib.hid hc1; clear h1 hc1)
                          | (refine step_I (w := wr) rfl (.tmp 48) (.tmp 51) rfl (.slice (some ⟨wr.heap.size + 1, 0, none⟩) 0 0) [] (by simp [Act.eval]) (some ⟨g, 0, none⟩) j j (xs.take j) (by simp [Act.eval]) HJ.out ?_ ?_ ?_ ?_; (rw [List.length_nil]; omega); (exact OwnI.new (heap_new2 (wr.drewN _) _ _) (below_d2 _ _ _ _) (by omega)); (exact S1.out _ (below_d2 _ _ _ _)); intro v1 w1 h1 hc1; have e1 := HCQ.out w1 h1.2.1; have H1 := Lib.hid h1; have K1 := Lib.hid hc1; clear h1 hc1)
                          | (refine step_I (w := wr) rfl (.tmp 52) (.tmp 57) rfl v1 (xs.take j) (by simp [Act.eval]) (some ⟨w1.heap.size, 0, none⟩) 1 1 [x] (by simp [Act.eval]) rfl ?_ ?_ ?_ ?_; (rw [HJ.out]; omega); (exact H1.out.below (below_new1 _ _)); (exact Src.one (heap_new1 _ _)); intro v2 w2 h2 hc2; have e2 := HCQ.out w2 h2.2.1; have H2 := Lib.hid h2; have K2 := Lib.hid hc2; clear h2 hc2)
                          | (refine step_I (w := wr) rfl (.tmp 52) (.tmp 57) rfl v1 (xs.take j) (by simp [Act.eval]) (some ⟨wr.heap.size, 0, none⟩) 1 1 [x] (by simp [Act.eval]) rfl ?_ ?_ ?_ ?_; (rw [HJ.out]; omega); (exact H1.out); (exact Src.one (K1.out.at_ (heap_new3 (wr.drewN _) _ _) (by simp [Value.ownBlock]))); intro v2 w2 h2 hc2; have e2 := HCQ.out w2 h2.2.1; have H2 := Lib.hid h2; have K2 := Lib.hid hc2; clear h2 hc2)
                          | (refine step_I (w := wr) rfl (.tmp 52) (.tmp 57) rfl v1 (xs.take j) (by simp [Act.eval]) (some ⟨(wr.heap.size + 1), 0, none⟩) 1 1 [x] (by simp [Act.eval]) rfl ?_ ?_ ?_ ?_; (rw [HJ.out]; omega); (exact H1.out); (exact Src.one (K1.out.at_ (heap_new2 (wr.drewN _) _ _) (by simp [Value.ownBlock]))); intro v2 w2 h2 hc2; have e2 := HCQ.out w2 h2.2.1; have H2 := Lib.hid h2; have K2 := Lib.hid hc2; clear h2 hc2)
                          | (refine step_I (w := wr) rfl (.tmp 58) (.tmp 61) rfl v2 ((xs.take j) ++ [x]) (by simp [Act.eval]) (some ⟨g, 0, none⟩) 0 0 ([] : List Int) (by simp [Act.eval]) HD.out ?_ ?_ ?_ ?_; (first | (rw [List.length_append, HJ.out]; simp; omega) | simp); (exact H2.out); (exact S3.out _ H2.out.2.1); intro v3 w3 h3 hc3; have e3 := HCQ.out w3 h3.2.1; have H3 := Lib.hid h3; have K3 := Lib.hid hc3; clear h3 hc3))
                    all_goals
                      go_wp2
                      go_roundw
                      case rel => exact ⟨k + 1, by omega, by go_num, by unfold NRelW; rw [HX.out, HI2.out]; exact ⟨H3.out.from_ HO.out.2.1, _, rfl⟩⟩
                      case measure => simp [intOf]; omega
                  · have SR : Hid (Src wr (some ⟨g, 0, none⟩) 1 m (xs.map iv)) := Lib.hid (by rw [HM.out]; exact HO.out.1.src)
                    have hjm2 : j ≤ m := by have := HJM.out; omega
                    have hne : ¬ cap2 = j := by have := HJM.out; omega
                    have hne' : ¬ (cap2 : Int) = (j : Int) := by omega
                    go_wp2
                    go_quiet (fail)
                    go_wp2
                    have HJ : Hid (((xs.take j)).length = j) := Lib.hid (by first | rfl | (rw [List.length_take]; have := HM.out; omega))
                    have HD : Hid (((xs.drop j)).length = m - j) := Lib.hid (by first | rfl | (rw [List.length_drop]; have := HM.out; omega))
                    have S1 : Hid (∀ (W : World), Below wr.heap.size wr W → Src W (some ⟨g, 0, none⟩) 1 j (((xs.take j)).map iv)) := Lib.hid fun W hW => by first | exact Src.nil _ _ _ | (rw [List.map_take]; exact (SR.out.take (by omega)).below hW)
                    have S3 : Hid (∀ (W : World), Below wr.heap.size wr W → Src W (some ⟨g, j, none⟩) 1 (m - j) (((xs.drop j)).map iv)) := Lib.hid fun W hW => by first | exact Src.nil _ _ _ | (rw [List.map_drop]; exact (SR.out.drop (by omega) (fun _ => by first | (simp [Addr.add]; done) | (exfalso; omega))).below hW)
                    have HCQ : Hid (∀ W, Below wr.heap.size wr W → W.cell? ⟨b, off + k, none⟩ = some (.int .i64 x)) := Lib.hid fun W hW => HC.out W (HO.out.2.1.trans (hW.mono HO.out.2.1.size))
                    have b1 : (j : Int) ≤ (m : Int) := by omega
                    have b2 : (m : Int) ≤ (cap2 : Int) := by omega
                    have b3 : (0 : Int) ≤ (j : Int) := by omega
                    have b4 : (j : Int) ≤ (cap2 : Int) := by omega
                    have b5 : j ≤ cap2 := by omega
                    go_region_held3 (fun w' => w'.cell? ⟨b, off + k, none⟩ = some (.int .i64 x)) (go_keep) (first
                          | (refine step_I (w := wr) rfl (.tmp 48) (.tmp 51) rfl (.slice (some ⟨wr.heap.size, 0, none⟩) 0 0) [] (by simp [Act.eval]) (some ⟨g, 0, none⟩) j cap2 (xs.take j) (by simp [Act.eval]) HJ.out ?_ ?_ ?_ ?_; (rw [List.length_nil]; omega); (first | exact OwnI.new (heap_new1 (wr.drewN _) _) (below_d1 _ _ _) (Nat.le_refl _) | exact OwnI.new (heap_new3 (wr.drewN _) _ _) (below_d2 _ _ _ _) (Nat.le_refl _)); (first | exact S1.out _ (below_d1 _ _ _) | exact S1.out _ (below_d2 _ _ _ _)); intro v1 w1 h1 hc1; have e1 := HCQ.out w1 h1.2.1; have H1 := Lib.hid h1; have K1 := Lib.hid hc1; clear h1 hc1)
                          | (refine step_I (w := wr) rfl (.tmp 48) (.tmp 51) rfl (.slice (some ⟨wr.heap.size + 1, 0, none⟩) 0 0) [] (by simp [Act.eval]) (some ⟨g, 0, none⟩) j cap2 (xs.take j) (by simp [Act.eval]) HJ.out ?_ ?_ ?_ ?_; (rw [List.length_nil]; omega); (exact OwnI.new (heap_new2 (wr.drewN _) _ _) (below_d2 _ _ _ _) (by omega)); (exact S1.out _ (below_d2 _ _ _ _)); intro v1 w1 h1 hc1; have e1 := HCQ.out w1 h1.2.1; have H1 := Lib.hid h1; have K1 := Lib.hid hc1; clear h1 hc1)
                          | (refine step_I (w := wr) rfl (.tmp 52) (.tmp 57) rfl v1 (xs.take j) (by simp [Act.eval]) (some ⟨w1.heap.size, 0, none⟩) 1 1 [x] (by simp [Act.eval]) rfl ?_ ?_ ?_ ?_; (rw [HJ.out]; omega); (exact H1.out.below (below_new1 _ _)); (exact Src.one (heap_new1 _ _)); intro v2 w2 h2 hc2; have e2 := HCQ.out w2 h2.2.1; have H2 := Lib.hid h2; have K2 := Lib.hid hc2; clear h2 hc2)
                          | (refine step_I (w := wr) rfl (.tmp 52) (.tmp 57) rfl v1 (xs.take j) (by simp [Act.eval]) (some ⟨wr.heap.size, 0, none⟩) 1 1 [x] (by simp [Act.eval]) rfl ?_ ?_ ?_ ?_; (rw [HJ.out]; omega); (exact H1.out); (exact Src.one (K1.out.at_ (heap_new3 (wr.drewN _) _ _) (by simp [Value.ownBlock]))); intro v2 w2 h2 hc2; have e2 := HCQ.out w2 h2.2.1; have H2 := Lib.hid h2; have K2 := Lib.hid hc2; clear h2 hc2)
                          | (refine step_I (w := wr) rfl (.tmp 52) (.tmp 57) rfl v1 (xs.take j) (by simp [Act.eval]) (some ⟨(wr.heap.size + 1), 0, none⟩) 1 1 [x] (by simp [Act.eval]) rfl ?_ ?_ ?_ ?_; (rw [HJ.out]; omega); (exact H1.out); (exact Src.one (K1.out.at_ (heap_new2 (wr.drewN _) _ _) (by simp [Value.ownBlock]))); intro v2 w2 h2 hc2; have e2 := HCQ.out w2 h2.2.1; have H2 := Lib.hid h2; have K2 := Lib.hid hc2; clear h2 hc2)
                          | (refine step_I (w := wr) rfl (.tmp 58) (.tmp 61) rfl v2 ((xs.take j) ++ [x]) (by simp [Act.eval]) (some ⟨g, j, none⟩) (m - j) (cap2 - j) (xs.drop j) (by simp [Act.eval]) HD.out ?_ ?_ ?_ ?_; (first | (rw [List.length_append, HJ.out]; simp; omega) | simp); (exact H2.out); (exact S3.out _ H2.out.2.1); intro v3 w3 h3 hc3; have e3 := HCQ.out w3 h3.2.1; have H3 := Lib.hid h3; have K3 := Lib.hid hc3; clear h3 hc3))
                    all_goals
                      go_wp2
                      go_roundw
                      case rel => exact ⟨k + 1, by omega, by go_num, by unfold NRelW; rw [HX.out, HI2.out]; exact ⟨H3.out.from_ HO.out.2.1, _, rfl⟩⟩
                      case measure => simp [intOf]; omega
      · have HX : Hid (normW (l.take (k + 1)) = xs) := Lib.hid (HN1.out rfl)
        go_wp2_with ((go_at_call 50; refine (HAS.out).mono ?_; rintro e w' ⟨rfl, rfl⟩))
        go_roundw
        case rel => exact ⟨k + 1, by omega, by go_num, by unfold NRelW; rw [HX.out]; exact ⟨HO.out, _, rfl⟩⟩
        case measure => simp [intOf]; omega
    · have hkn : k = n := by omega
      have HR : Hid (OwnI w wr u4 (normW l)) := Lib.hid (by rw [hkn, HN.out, List.take_length] at hrel; exact hrel)
      clear hrel hkn
      go_wp2
      go_ret2
      exact ⟨u4, (by cases fk; exact .inl rfl; exact .inr rfl), HR.out⟩
end Go.Proofs.Ytghlgegfokjgbaa
