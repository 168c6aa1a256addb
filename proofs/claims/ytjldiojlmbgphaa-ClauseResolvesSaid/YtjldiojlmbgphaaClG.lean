/-
  Clauses: the reference's Resolve; fine, Right, alive.
-/
import Derived.Test.YtjldiojlmbgphaaClF
namespace Go.Proofs.Ytjldiojlmbgphaa
open Go.ChangeShapes Go.WideShapes Go.ChangeAt Go.RowKit
set_option linter.unusedVariables false
theorem without_snoc (c : List Int) (y x : Int) : without (c ++ [y]) x = without c x ++ (if y = x then [] else [y]) := by
  unfold without
  rw [List.filter_append]
  by_cases h : y = x <;> simp [h]
theorem r17_Resolve_no {w : World} {u v : Value} {a b : List Int} (ha : Ints w u a) (hb : Ints w v b) (x : Int) (hx : small x) (hr : resB a b x = false) :
    Calls Try.prog 11 #[u, v, .int .i64 x] w fun e w' => e = .returned (.tuple #[.slice none 0 0, .bool false]) ∧ w = w' := by
  obtain ⟨x0, x1⟩ := hx
  obtain ⟨p, hp⟩ : ∃ p, p = a.contains x := ⟨_, rfl⟩
  obtain ⟨q, hq⟩ : ∃ q, q = b.contains (-x) := ⟨_, rfl⟩
  have h1 := r17_Has ha x
  have h2 := r17_Has hb (-x)
  unfold resB at hr
  rw [← hp, ← hq] at hr
  rw [← hp] at h1
  rw [← hq] at h2
  have H1 := Lib.hid h1
  have H2 := Lib.hid h2
  clear h1 h2 hp hq ha hb
  by_cases h0 : 1 ≤ x
  · have c1 : decide (x < 1) = false := decide_eq_false (by omega)
    rw [decide_eq_true h0, Bool.true_and] at hr
    cases p
    · clear hr
      go_enter Try.func11, Try.ntmps11
      go_wp2_with ((go_at_call 29; refine (H1.out).mono ?_; rintro e w' ⟨rfl, rfl⟩))
      go_ret2
      exact ⟨rfl, rfl⟩
    · rw [Bool.true_and] at hr
      subst hr
      go_enter Try.func11, Try.ntmps11
      go_wp2_with fail
      refine H1.out.mono ?_
      rintro e w1 ⟨rfl, rfl⟩
      go_wp2_with ((go_at_call 29; refine (H2.out).mono ?_; rintro e w' ⟨rfl, rfl⟩))
      go_ret2
      exact ⟨rfl, rfl⟩
  · have c1 : x < 1 := by omega
    clear hr h0
    go_enter Try.func11, Try.ntmps11
    go_wp2
    go_ret2
    exact ⟨rfl, rfl⟩
def R1 (a : List Int) (x : Int) (k : Nat) (w wr : World) (out : Value) : Prop := OwnI w wr out (without (a.take k) x)
def R2 (a b : List Int) (x : Int) (k : Nat) (w wr : World) (out : Value) : Prop := OwnI w wr out (without a x ++ without (b.take k) (-x))
theorem len_take_without (a : List Int) (x : Int) (k : Nat) : (without (a.take k) x).length ≤ a.length := Nat.le_trans (len_without _ _) (by rw [List.length_take]; omega)
set_option maxHeartbeats 2000000 in
set_option maxRecDepth 100000 in
theorem r17_Resolve_yes {w : World} {u v : Value} {a b : List Int} (ha : Ints w u a) (hb : Ints w v b) (hca : ClauseL a) (hcb : ClauseL b) (hla : a.length ≤ 1000) (hlb : b.length ≤ 1000) (x : Int) (hx : small x) (hr : resB a b x = true) :
    Calls Try.prog 11 #[u, v, .int .i64 x] w fun e w' => ∃ z, e = .returned (.tuple #[z, .bool true]) ∧ ResPost w w' z (resC a b x) := by
  obtain ⟨x0, x1⟩ := hx
  have h1 := r17_Has ha x
  have h2 := r17_Has hb (-x)
  unfold resB at hr
  rw [Bool.and_eq_true, Bool.and_eq_true, decide_eq_true_eq] at hr
  obtain ⟨⟨h0, hr1⟩, hr2⟩ := hr
  rw [hr1] at h1
  rw [hr2] at h2
  have H1 := Lib.hid h1
  have H2 := Lib.hid h2
  have HCC : Hid (ClauseL (without a x ++ without b (-x))) := Lib.hid (clause_app (clause_without hca x) (clause_without hcb (-x)))
  have HRC : Hid (normC (without a x ++ without b (-x)) = resC a b x) := Lib.hid rfl
  have HXB : Hid (small x) := Lib.hid ⟨x0, x1⟩
  obtain ⟨A, capa, rfl, -, ha1, ha2, hva⟩ := ha
  obtain ⟨B, capb, rfl, -, hb1, hb2, hvb⟩ := hb
  obtain ⟨n, hn⟩ : ∃ n, n = a.length := ⟨_, rfl⟩
  obtain ⟨m, hm⟩ : ∃ m, m = b.length := ⟨_, rfl⟩
  rw [← hn] at hla ha1 H1 ⊢
  rw [← hm] at hlb hb1 H2 ⊢
  have HN := Lib.hid hn
  have HM := Lib.hid hm
  have HVA := Lib.hid hva
  have HVB := Lib.hid hvb
  have HLA : Hid (∀ k, (without (a.take k) x).length ≤ 1000) := Lib.hid fun k => by have := len_take_without a x k; omega
  have HLW : Hid ((without a x).length ≤ 1000) := Lib.hid (by have := len_without a x; omega)
  have HLB : Hid (∀ k, (without (b.take k) (-x)).length ≤ 1000) := Lib.hid fun k => by have := len_take_without b (-x) k; omega
  clear h1 h2 hr1 hr2 hva hvb hca hcb hn hm ha1 ha2 hb1 hb2
  go_enter Try.func11, Try.ntmps11
  go_wp2_with fail
  refine H1.out.mono ?_
  rintro e w1 ⟨rfl, rfl⟩
  go_wp2_with fail
  refine H2.out.mono ?_
  rintro e w1 ⟨rfl, rfl⟩
  go_wp2_with fail
  go_loopw [8, 9] (fun out i wr => ∃ k : Nat, k ≤ n ∧ i = .int .i64 k ∧ R1 a x k w wr out) (fun _ i _ => n - (intOf i).toNat)
  case atStart => exact ⟨0, Nat.zero_le _, rfl, OwnI.start w⟩
  case round =>
    obtain ⟨k, hk, rfl, hrel⟩ := hrel
    unfold R1 at hrel
    have HO := Lib.hid hrel
    clear hrel
    by_cases hlt : (k : Int) < (n : Int)
    · have hkn : k < a.length := by have := HN.out; omega
      obtain ⟨b1, off, rfl, hcell⟩ := ints_cells HVA.out hkn
      have q1 := hcell wr HO.out.2.1
      obtain ⟨y, hy⟩ : ∃ y, y = a.getD k 0 := ⟨_, rfl⟩
      rw [← hy] at q1
      have HT : Hid (without (a.take (k + 1)) x = without (a.take k) x ++ (if y = x then [] else [y])) := Lib.hid (by rw [take_snocI hkn, ← hy, without_snoc])
      have HL := Lib.hid (HLA.out k)
      clear hcell hkn hy
      by_cases hyx : y = x
      · have hb : (y != x) = false := by rw [hyx]; simp
        have HT2 : Hid (without (a.take (k + 1)) x = without (a.take k) x) := Lib.hid (by rw [HT.out, if_pos hyx, List.append_nil])
        clear hyx
        go_wp2
        go_roundw
        case rel => exact ⟨k + 1, by omega, by go_num, by unfold R1; rw [HT2.out]; exact HO.out⟩
        case measure => simp [intOf]; omega
      · have hb : (y != x) = true := by rw [bne_iff_ne]; exact hyx
        have HT2 : Hid (without (a.take (k + 1)) x = without (a.take k) x ++ [y]) := Lib.hid (by rw [HT.out, if_neg hyx])
        clear hyx
        go_wp2_with (at_builtin; refine wpList_I (w := w) rfl _ _ rfl _ (without (a.take k) x) rfl (some ⟨wr.heap.size, 0, none⟩) 1 1 [y] rfl rfl (by have := HL.out; omega) (HO.out.below (below_new1 _ _)) (Src.one (heap_new1 _ _)) ?_; intro v3 w3 h3; have H3 := Lib.hid h3; clear h3)
        go_roundw
        case rel => exact ⟨k + 1, by omega, by go_num, by unfold R1; rw [HT2.out]; exact H3.out⟩
        case measure => simp [intOf]; omega
    · have hkn : k = n := by omega
      have HO2 : Hid (R2 a b x 0 w wr u8) := Lib.hid (by unfold R2; have := HO.out; rw [hkn, HN.out, List.take_length] at this; simpa [without] using this)
      obtain ⟨x0', x1'⟩ := HXB.out
      have hneg : IntKind.i64.wrap (-x) = -x := IntWalk.i64_in _ (by omega)
      clear hkn HO x0' x1'
      go_wp2_with fail
      obtain ⟨wo, rfl⟩ : ∃ wo : World, wo = wr := ⟨_, rfl⟩
      go_loopw [8, 10] (fun out i wr => ∃ k : Nat, k ≤ m ∧ i = .int .i64 k ∧ R2 a b x k w wr out) (fun _ i _ => m - (intOf i).toNat)
      case atStart => exact ⟨0, Nat.zero_le _, rfl, HO2.out⟩
      case round =>
        obtain ⟨k, hk, rfl, hrel⟩ := hrel
        unfold R2 at hrel
        have HO := Lib.hid hrel
        clear hrel
        by_cases hlt : (k : Int) < (m : Int)
        · have hkn : k < b.length := by have := HM.out; omega
          obtain ⟨b1, off, rfl, hcell⟩ := ints_cells HVB.out hkn
          have q1 := hcell wr HO.out.2.1
          obtain ⟨y, hy⟩ : ∃ y, y = b.getD k 0 := ⟨_, rfl⟩
          rw [← hy] at q1
          have HT : Hid (without (b.take (k + 1)) (-x) = without (b.take k) (-x) ++ (if y = -x then [] else [y])) := Lib.hid (by rw [take_snocI hkn, ← hy, without_snoc])
          have HL : Hid ((without a x ++ without (b.take k) (-x)).length ≤ 2000) := Lib.hid (by rw [List.length_append]; have := HLB.out k; have := HLW.out; omega)
          clear hcell hkn hy
          by_cases hyx : y = -x
          · have hb : (y != -x) = false := by rw [hyx]; simp
            have HT2 : Hid (without (b.take (k + 1)) (-x) = without (b.take k) (-x)) := Lib.hid (by rw [HT.out, if_pos hyx, List.append_nil])
            clear hyx
            go_wp2
            go_roundw
            case rel => exact ⟨k + 1, by omega, by go_num, by unfold R2; rw [HT2.out]; exact HO.out⟩
            case measure => simp [intOf]; omega
          · have hb : (y != -x) = true := by rw [bne_iff_ne]; exact hyx
            have HT2 : Hid (without (b.take (k + 1)) (-x) = without (b.take k) (-x) ++ [y]) := Lib.hid (by rw [HT.out, if_neg hyx])
            clear hyx
            go_wp2_with (at_builtin; refine wpList_I (w := w) rfl _ _ rfl _ (without a x ++ without (b.take k) (-x)) rfl (some ⟨wr.heap.size, 0, none⟩) 1 1 [y] rfl rfl (by have := HL.out; omega) (HO.out.below (below_new1 _ _)) (Src.one (heap_new1 _ _)) ?_; intro v3 w3 h3; have H3 := Lib.hid h3; clear h3)
            go_roundw
            case rel => exact ⟨k + 1, by omega, by go_num, by unfold R2; rw [HT2.out, ← List.append_assoc]; exact H3.out⟩
            case measure => simp [intOf]; omega
        · have hkn : k = m := by omega
          have HO3 : Hid (OwnI w wr u8 (without a x ++ without b (-x))) := Lib.hid (by have := HO.out; rw [hkn, HM.out, List.take_length] at this; exact this)
          have HLL : Hid ((without a x ++ without b (-x)).length ≤ 2000) := Lib.hid (by have := HLB.out m; rw [HM.out, List.take_length] at this; rw [List.length_append]; have := HLW.out; omega)
          clear hkn HO
          go_wp2_with fail
          refine (r17_Norm HO3.out.ints HCC.out (by have := HLL.out; omega)).mono ?_
          rintro e w4 ⟨z, rfl, hz⟩
          rw [NormPost, HRC.out] at hz
          have HZ := Lib.hid (hz.from_ HO3.out.2.1)
          clear hz
          go_wp2_with fail
          go_ret2
          exact ⟨z, rfl, HZ.out⟩
/-! ### the law's own small functions -/
def fineP (a b : List Int) : Bool := decide (a.length ≤ 60) && decide (b.length ≤ 60) && clauseB a && clauseB b
theorem w17_fine {w : World} {u v : Value} {a b : List Int} (ha : Ints w u a) (hb : Ints w v b) : Calls Try.prog 6 #[u, v] w fun e w' => e = .returned (.bool (fineP a b)) ∧ w = w' := by
  have F1 := Lib.hid (r17_Fine ha)
  have F2 := Lib.hid (r17_Fine hb)
  obtain ⟨A, capa, rfl, -, ha1, ha2, -⟩ := ha
  obtain ⟨B, capb, rfl, -, hb1, hb2, -⟩ := hb
  obtain ⟨p, hp⟩ : ∃ p, p = clauseB a := ⟨_, rfl⟩
  obtain ⟨q, hq⟩ : ∃ q, q = clauseB b := ⟨_, rfl⟩
  have HFP : Hid (fineP a b = (decide (a.length ≤ 60) && decide (b.length ≤ 60) && p && q)) := Lib.hid (by rw [hp, hq]; rfl)
  rw [← hp] at F1
  rw [← hq] at F2
  obtain ⟨n, hn⟩ : ∃ n, n = a.length := ⟨_, rfl⟩
  obtain ⟨m, hm⟩ : ∃ m, m = b.length := ⟨_, rfl⟩
  rw [← hn] at F1 HFP ha1 ⊢
  rw [← hm] at F2 HFP hb1 ⊢
  have hn9 : n ≤ 9223372036854775807 := Nat.le_trans ha1 ha2
  have hm9 : m ≤ 9223372036854775807 := Nat.le_trans hb1 hb2
  rw [HFP.out]
  clear hp hq hn hm HFP ha1 ha2 hb1 hb2
  by_cases h1 : n ≤ 60
  · have c1 : decide ((n : Int) ≤ 60) = true := decide_eq_true (by omega)
    rw [decide_eq_true h1, Bool.true_and]
    by_cases h2 : m ≤ 60
    · have c2 : decide ((m : Int) ≤ 60) = true := decide_eq_true (by omega)
      rw [decide_eq_true h2, Bool.true_and]
      cases p
      · go_enter Try.func6, Try.ntmps6
        go_wp2_with ((go_at_call 18; refine (F1.out).mono ?_; rintro e w' ⟨rfl, rfl⟩))
        go_ret
        exact ⟨rfl, rfl⟩
      · rw [Bool.true_and]
        go_enter Try.func6, Try.ntmps6
        go_wp2_with fail
        refine F1.out.mono ?_
        rintro e w1 ⟨rfl, rfl⟩
        go_wp2_with ((go_at_call 18; refine (F2.out).mono ?_; rintro e w' ⟨rfl, rfl⟩))
        go_ret
        exact ⟨rfl, rfl⟩
    · have c2 : decide ((m : Int) ≤ 60) = false := decide_eq_false (by omega)
      rw [decide_eq_false h2, Bool.false_and, Bool.false_and]
      go_enter Try.func6, Try.ntmps6
      go_wp2
      go_ret
      exact ⟨rfl, rfl⟩
  · have c1 : decide ((n : Int) ≤ 60) = false := decide_eq_false (by omega)
    rw [decide_eq_false h1, Bool.false_and, Bool.false_and, Bool.false_and]
    go_enter Try.func6, Try.ntmps6
    go_wp2
    go_ret
    exact ⟨rfl, rfl⟩
def badR (n y : Int) : Bool := (y == 0) || decide (n < 0) || decide (n < y) || decide (y < -n)
theorem right_closure {w : World} {bx : Nat} (h : w.cell? ⟨bx, 0, none⟩ = some (.int .i64 3)) (y : Int) : Calls Try.prog 34 #[.int .i64 y, .pointer (some ⟨bx, 0, none⟩)] w fun e w' => e = .returned (.bool (badR 3 y)) ∧ w = w' := by
  by_cases h0 : y = 0
  · subst h0
    go_enter Try.func34, Try.ntmps34
    go_wp2
    go_ret
    exact ⟨rfl, rfl⟩
  · have c0 : (y == 0) = false := by rw [beq_eq_false_iff_ne]; exact h0
    by_cases h1 : 3 < y
    · have e : badR 3 y = true := by unfold badR; rw [decide_eq_true h1]; simp
      rw [e]
      clear e h0
      go_enter Try.func34, Try.ntmps34
      go_wp2
      go_ret
      exact ⟨rfl, rfl⟩
    · by_cases h2 : y < -3
      · have e : badR 3 y = true := by unfold badR; rw [decide_eq_true (show y < -(3 : Int) from h2)]; simp
        rw [e]
        clear e h0
        have c1 : decide (3 < y) = false := decide_eq_false h1
        go_enter Try.func34, Try.ntmps34
        go_wp2
        go_ret
        exact ⟨rfl, rfl⟩
      · have e : badR 3 y = false := by unfold badR; rw [c0, decide_eq_false h1, decide_eq_false (show ¬ y < -(3 : Int) from h2)]; rfl
        rw [e]
        clear e h0
        have c1 : decide (3 < y) = false := decide_eq_false h1
        have c2 : decide (y < -3) = false := decide_eq_false h2
        go_enter Try.func34, Try.ntmps34
        go_wp2
        go_ret
        exact ⟨rfl, rfl⟩
theorem right_some {w : World} {bx b cap : Nat} {y : Int} (hbox : ∀ W, Below w.heap.size w W → W.cell? ⟨bx, 0, none⟩ = some (.int .i64 3)) (hc : w.cell? ⟨b, 0, none⟩ = some (.int .i64 y)) :
    Calls Try.prog 20 #[.slice (some ⟨b, 0, none⟩) 1 cap, .func (.func 34) #[] #[.pointer (some ⟨bx, 0, none⟩)]] w fun e w' => e = .returned (.bool (badR 3 y)) ∧ Quiet w w' := by
  have eg : ∀ args w, (callFunc 34 args).run Try.prog w = .ok (.enter 34 args) w := enters_of Try.func34 (by kernel_rfl) rfl
  have hp : PredAt Try.prog 34 #[.pointer (some ⟨bx, 0, none⟩)] (Value.int .i64) (badR 3) w := fun W x hW =>
    (right_closure (hbox W hW) x).mono fun e w' ⟨h1, h2⟩ => ⟨h1, 0, h2.symm⟩
  have h := AnyE.slices_ContainsFunc Try.hasF (Value.int .i64) (badR 3) 34 #[.pointer (some ⟨bx, 0, none⟩)] eg b 0 1 cap [y] w hp (by simp) (by omega) (fun j hj => by
    match j, hj with
    | 0, _ => exact hc)
  refine h.mono fun e w' ⟨h1, h2⟩ => ⟨?_, h2⟩
  rw [h1]
  simp
theorem cl_Right {w : World} {b cap : Nat} {y : Int} (hc : w.cell? ⟨b, 0, none⟩ = some (.int .i64 y)) :
    Calls Try.prog 19 #[.slice (some ⟨b, 0, none⟩) 1 cap, .int .i64 3] w fun e w' => e = .returned (.bool (!badR 3 y)) ∧ Below w.heap.size w w' := by
  have hB1 : Below w.heap.size w (w.alloc (.cells #[.int .i64 3] 3)) := (Below.refl _ _).alloc (Nat.le_refl _) _
  have hR := right_some (w := w.alloc (.cells #[.int .i64 3] 3)) (bx := w.heap.size) (b := b) (cap := cap) (y := y)
    (fun W hW => by
      have h0 : (w.alloc (.cells #[.int .i64 3] 3)).cell? ⟨w.heap.size, 0, none⟩ = some (.int .i64 3) := (Blk.new w 3 #[.int .i64 3]).cell 0
      exact (hW.cell (p := ⟨w.heap.size, 0, none⟩) (by simp)).trans h0)
    ((hB1.cell (p := ⟨b, 0, none⟩) (World.block_lt_of_cell? w _ hc)).trans hc)
  have HR := Lib.hid hR
  have HB := Lib.hid hB1
  clear hR hB1 hc
  go_enter Try.func19, Try.ntmps19
  go_wp2_with ((go_at_call 20; refine (HR.out).mono ?_; rintro e w' ⟨rfl, hq⟩))
  go_ret
  exact ⟨rfl, HB.out.trans (hq.below.mono HB.out.size)⟩
end Go.Proofs.Ytjldiojlmbgphaa
