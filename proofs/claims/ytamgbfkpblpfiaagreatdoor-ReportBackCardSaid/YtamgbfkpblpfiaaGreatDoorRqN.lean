/-
  The document's reports: cut, number, index, walked.
-/
import Derived.Test.YtamgbfkpblpfiaaGreatDoorRqL
import Derived.Test.YtamgbfkpblpfiaaGreatDoorTpX
namespace Go.Proofs.YtamgbfkpblpfiaaGreatDoor
open Go.ChangeShapes Go.WideShapes Go.ChangeAt Go.RowKit
set_option linter.unusedVariables false
set_option linter.unusedSimpArgs false
theorem cutT_no : ∀ {l : List UInt8}, (∀ x ∈ l, x ≠ 10) → cutT l = none
  | [], _ => rfl
  | c :: l, h => by
    rw [cutT, if_neg (h c (List.mem_cons_self ..)), cutT_no (fun x hx => h x (List.mem_cons_of_mem _ hx))]
theorem cutT_at : ∀ {l : List UInt8} {k : Nat} (hk : k < l.length), (∀ x ∈ l.take k, x ≠ 10) → l[k] = 10 → cutT l = some (l.take k, l.drop (k + 1))
  | c :: l, 0, hk, _, h => by
    have h : c = 10 := h
    rw [cutT, if_pos h]
    rfl
  | c :: l, k + 1, hk, hn, h => by
    have h : l[k]'(by simpa using hk) = 10 := h
    rw [cutT, if_neg (hn c (by simp)), cutT_at (by simpa using hk) (fun x hx => hn x (by rw [List.take_succ_cons]; exact List.mem_cons_of_mem _ hx)) h]
    rfl
def CutQ (w : World) (l : List UInt8) (e : Ending) (w' : World) : Prop := Below w.heap.size w w' ∧ match cutT l with
  | some (a, b) => e = .returned (.tuple #[.string (bs a), .string (bs b), .bool true])
  | none => e = .returned (.tuple #[.string ⟨#[]⟩, .string (bs l), .bool false])
set_option maxHeartbeats 1000000 in
theorem r37_cut {l : List UInt8} (hl : l.length ≤ 100000) (w : World) : Calls Tryz.prog 23 #[.string (bs l)] w (CutQ w l) := by
  obtain ⟨s, hs⟩ : ∃ s, s = bs l := ⟨_, rfl⟩
  have hsl : s.data.toList = l := by rw [hs, bs_list]
  have hsz : s.size = l.length := by rw [hs, bs_size]
  rw [← hs]
  have HS := Lib.hid hsl
  have HSZ := Lib.hid hsz
  have HSE := Lib.hid hs
  have hs9 : s.size ≤ 100000 := by omega
  clear hs hsl hsz hl
  go_enter Tryz.func23, Tryz.ntmps23
  go_wp2
  go_loopw [5] (fun c wr => ∃ k : Nat, k ≤ s.size ∧ c = .int .i64 k ∧ (∀ x ∈ s.data.toList.take k, x ≠ 10) ∧ w = wr) (fun c _ => s.size - (intOf c).toNat)
  case atStart => exact ⟨0, Nat.zero_le _, rfl, by simp, rfl⟩
  case round =>
    obtain ⟨k, hk, rfl, hn, rfl⟩ := hrel
    have HN := Lib.hid hn
    clear hn
    by_cases hlt : k < s.size
    · have HLL : Hid (k < s.data.toList.length) := Lib.hid (by rw [Array.length_toList]; exact hlt)
      by_cases h10 : s[k] = 10
      · have e1 : ((s[k].toNat : Int) == 10) = true := by rw [h10]; rfl
        have hc := cutT_at HLL.out HN.out h10
        have hx1 : s.extract 0 k = bs (s.data.toList.take k) := by rw [bs_extract]; simp
        have hx2 : s.extract (k + 1) s.size = bs (s.data.toList.drop (k + 1)) := by
          rw [bs_extract, List.take_of_length_le (by rw [Array.length_toList]; exact Nat.le_refl _)]
        have HF : Hid (∀ W, Below w.heap.size w W → CutQ w l (.returned (.tuple #[.string (s.extract 0 k), .string (s.extract (k + 1) s.size), .bool true])) W) := Lib.hid fun W hW => by
          refine ⟨hW, ?_⟩
          rw [← HS.out, hc]
          simp only
          rw [hx1, hx2]
        have hw3 : IntKind.i64.wrap ((k : Int) + 1) = (k : Int) + 1 := by simp (disch := omega) only [IntWalk.i64_in]
        have ht1 : ((k : Int) + 1).toNat = k + 1 := by omega
        have hb1 : (k : Int) + 1 ≤ (s.size : Int) := by omega
        clear h10 hc hx1 hx2
        go_wp2
        go_region
        go_wp2
        go_returns
        exact HF.out _ (Below.refl _ _).drew
      · have e1 : ((s[k].toNat : Int) == 10) = false := by
          rw [beq_eq_false_iff_ne]
          intro e
          exact h10 (UInt8.toNat.inj (by have : (10 : UInt8).toNat = 10 := rfl; omega))
        have HN2 : Hid (∀ x ∈ s.data.toList.take (k + 1), x ≠ 10) := Lib.hid fun x hx => by
          rw [take_snocB s k hlt] at hx
          rcases List.mem_append.1 hx with hx | hx
          · exact HN.out x hx
          · rw [List.mem_singleton.1 hx]; exact h10
        clear h10
        go_wp2
        go_roundw
        case rel => exact ⟨k + 1, by omega, by go_num, HN2.out, by trivial⟩
        case measure => simp [intOf]; omega
    · obtain rfl : k = s.size := by omega
      have hc : cutT l = none := by
        rw [← HS.out]
        have h := HN.out
        rw [List.take_of_length_le (by rw [Array.length_toList]; exact Nat.le_refl _)] at h
        exact cutT_no h
      have HF : Hid (CutQ w l (.returned (.tuple #[.string ⟨#[]⟩, .string s, .bool false])) w) := Lib.hid (by
        refine ⟨Below.refl _ _, ?_⟩
        rw [hc, HSE.out])
      clear hc
      go_wp2
      go_returns
      exact HF.out
def NumMQ (w : World) (o : Option Nat) (e : Ending) (w' : World) : Prop := Below w.heap.size w w' ∧ match o with
  | some n => e = .returned (.tuple #[.int .i64 (n : Int), .bool true])
  | none => e = .returned (.tuple #[.int .i64 0, .bool false])
theorem r37_number {y : List UInt8} (hy : y.length ≤ 100000) (most : Nat) (hm : most ≤ 1099511627776) (w : World) : Calls Tryz.prog 54 #[.string (bs y), .int .i64 (most : Int)] w (NumMQ w (numM most y)) := by
  have hnum := r15_number (bs y) w (by rw [bs_size]; omega)
  rw [bs_list] at hnum
  have HNM := Lib.hid hnum
  have hw0 : IntKind.u64.wrap (most : Int) = (most : Int) := IntWalk.u64_in _ (by omega)
  unfold numM
  generalize bs y = sy at *
  clear hnum hy
  cases hu : numU y with
  | none =>
    rw [hu] at HNM
    clear hu
    go_enter Tryz.func54, Tryz.ntmps54
    go_wp2_with fail
    refine HNM.out.mono ?_
    rintro e w2 ⟨rfl, hb⟩
    rw [ansU_none]
    simp only
    go_wp2
    go_returns
    exact ⟨hb, rfl⟩
  | some k =>
    rw [hu] at HNM
    clear hu
    simp only
    by_cases hk : k ≤ most
    · rw [if_pos hk]
      have hk1 : ¬ (most : Int) < (k : Int) := by omega
      have hk2 : IntKind.i64.wrap (k : Int) = (k : Int) := IntWalk.i64_in _ (by omega)
      go_enter Tryz.func54, Tryz.ntmps54
      go_wp2_with fail
      refine HNM.out.mono ?_
      rintro e w2 ⟨rfl, hb⟩
      rw [ansU_some]
      simp only
      go_wp2
      go_returns
      exact ⟨hb, rfl⟩
    · rw [if_neg hk]
      have hk1 : (most : Int) < (k : Int) := by omega
      go_enter Tryz.func54, Tryz.ntmps54
      go_wp2_with fail
      refine HNM.out.mono ?_
      rintro e w2 ⟨rfl, hb⟩
      rw [ansU_some]
      simp only
      go_wp2
      go_returns
      exact ⟨hb, rfl⟩
theorem idxL_take {x : List UInt8} : ∀ {ls : List (List UInt8)} {k : Nat}, k < ls.length → (∀ j, j < k → ls.getD j [] ≠ x) → ls.getD k [] = x → idxL x ls = some k
  | y :: ys, 0, _, _, h => by
    have h : y = x := h
    rw [idxL, if_pos h]
  | y :: ys, k + 1, hk, hn, h => by
    have h0 : ¬ y = x := hn 0 (by omega)
    rw [idxL, if_neg h0, idxL_take (by simpa using hk) (fun j hj => hn (j + 1) (by omega)) h]
    rfl
theorem idxL_none {x : List UInt8} : ∀ {ls : List (List UInt8)}, (∀ j, j < ls.length → ls.getD j [] ≠ x) → idxL x ls = none
  | [], _ => rfl
  | y :: ys, hn => by
    have h0 : ¬ y = x := hn 0 (by simp)
    rw [idxL, if_neg h0, idxL_none (fun j hj => hn (j + 1) (by simpa using hj))]
    rfl
set_option maxHeartbeats 1000000 in
theorem r37_index {w : World} {b c n : Nat} (ls : List (List UInt8)) (x : List UInt8) (hn : n = ls.length) (hl : n ≤ 1000) (hc : ∀ j, j < ls.length → w.cell? ⟨b, j, none⟩ = some (.string (bs (ls.getD j [])))) :
    Calls Tryz.prog 52 #[.string (bs x), .slice (some ⟨b, 0, none⟩) n c] w fun e w' => e = .returned (.int .i64 (idxI x ls)) ∧ w = w' := by
  have HC := Lib.hid hc
  have HN := Lib.hid hn
  obtain ⟨ans, hans⟩ : ∃ ans, ans = idxI x ls := ⟨_, rfl⟩
  have HA := Lib.hid hans
  rw [← hans]
  obtain ⟨sx, hsx⟩ : ∃ sx, sx = bs x := ⟨_, rfl⟩
  have HX := Lib.hid hsx
  rw [← hsx]
  clear hc hn hans hsx
  go_enter Tryz.func52, Tryz.ntmps52
  go_wp2
  go_loopw [5] (fun c wr => ∃ k : Nat, k ≤ n ∧ c = .int .i64 k ∧ (∀ j, j < k → ls.getD j [] ≠ x) ∧ w = wr) (fun c _ => n - (intOf c).toNat)
  case atStart => exact ⟨0, Nat.zero_le _, rfl, fun j hj => absurd hj (by omega), rfl⟩
  case round =>
    obtain ⟨k, hk, rfl, hn, rfl⟩ := hrel
    have HK := Lib.hid hn
    clear hn
    by_cases hlt : (k : Int) < (n : Int)
    · have hkl : k < ls.length := by have := HN.out; omega
      have q := HC.out k hkl
      by_cases hx : ls.getD k [] = x
      · have HF : Hid (Ending.returned (.int .i64 (k : Int)) = .returned (.int .i64 ans)) := Lib.hid (by rw [HA.out, idxI, idxL_take hkl HK.out hx])
        have e1 : ((bs (ls.getD k [])).toList == sx.toList) = true := by rw [hx, HX.out]; simp
        clear hx hkl
        generalize bs (ls.getD k []) = sy at *
        go_wp2
        go_ret
        exact ⟨HF.out, rfl⟩
      · have e1 : ((bs (ls.getD k [])).toList == sx.toList) = false := by
          rw [HX.out, Lib.toList_data, Lib.toList_data, bs_list, bs_list, beq_eq_false_iff_ne]
          exact hx
        have HK2 : Hid (∀ j, j < k + 1 → ls.getD j [] ≠ x) := Lib.hid fun j hj => by
          by_cases h : j = k
          · rw [h]; exact hx
          · exact HK.out j (by omega)
        clear hx hkl
        generalize bs (ls.getD k []) = sy at *
        go_wp2
        go_roundw
        case rel => exact ⟨k + 1, by omega, by go_num, HK2.out, by trivial⟩
        case measure => simp [intOf]; omega
    · obtain rfl : k = n := by omega
      have HF : Hid (Ending.returned (.int .i64 (-1)) = .returned (.int .i64 ans)) := Lib.hid (by rw [HA.out, idxI, idxL_none (fun j hj => HK.out j (by have := HN.out; omega))])
      go_wp2
      go_ret
      exact ⟨HF.out, rfl⟩
end Go.Proofs.YtamgbfkpblpfiaaGreatDoor
/-
  The document's reports: a line's words, walked.
-/
namespace Go.Proofs.YtamgbfkpblpfiaaGreatDoor
open Go.ChangeShapes Go.WideShapes Go.ChangeAt Go.RowKit
set_option linter.unusedVariables false
set_option linter.unusedSimpArgs false
/-- The words of a line, behind its first one. -/
def wordsR (word : List UInt8) (many : Option Nat) (line : List UInt8) : Option (List (List UInt8)) := match wordsT line with
  | w :: ws => if w = word ∧ ws ≠ [] ∧ (∀ m ∈ many, ws.length = m) then some ws else none
  | [] => none
theorem lineR_words (word : List UInt8) (many : Option Nat) (rest : List UInt8) : lineR word many rest = match cutT rest with | some (line, r) => (match wordsR word many line with | some ws => some (ws, r) | none => none) | none => none := by
  unfold lineR wordsR
  cases cutT rest with
  | none => rfl
  | some q =>
    obtain ⟨line, r⟩ := q
    simp only
    cases wordsT line with
    | nil => rfl
    | cons w ws => simp only; split <;> rfl
def WordsQ (w : World) (o : Option (List (List UInt8))) (e : Ending) (w' : World) : Prop := Below w.heap.size w w' ∧ match o with
  | some ws => ∃ b c, e = .returned (.tuple #[.slice (some ⟨b, 1, none⟩) ws.length c, .bool true]) ∧ Wds w' b ws ∧ w.heap.size ≤ b ∧ b < w'.heap.size
  | none => e = .returned (.tuple #[.slice none 0 0, .bool false])
set_option maxHeartbeats 8000000 in
theorem r37_words {l : List UInt8} (hl : l.length ≤ 100000) (word : List UInt8) (many : Option Nat) (hmany : ∀ m ∈ many, m ≤ 100) (w : World) : Calls Tryz.prog 51 #[.string (bs l), .string (bs word), .int .i64 (manyI many)] w (WordsQ w (wordsR word many l)) := by
  obtain ⟨s, hs⟩ : ∃ s, s = bs l := ⟨_, rfl⟩
  have hsl : s.data.toList = l := by rw [hs, bs_list]
  have hsz : s.size = l.length := by rw [hs, bs_size]
  rw [← hs]
  have HS := Lib.hid hsl
  have hs9 : s.size ≤ 100000 := by omega
  have H0 : Hid (OwnG KS w (w.alloc (.cells #[.string ⟨#[]⟩] 9)) (.slice (some ⟨w.heap.size, 0, none⟩) 1 1) [[]]) := Lib.hid ⟨⟨by simp [KS], .inr ⟨w.heap.size, 1, #[.string ⟨#[]⟩], rfl, Nat.zero_le _, heap_alloc_new w _, Nat.le_refl _, by simp [maxLen], by simp, by simp [KS, strV, bs]⟩⟩, (Below.refl _ w).alloc (Nat.le_refl _) _, fun k hk => by simp [Value.ownBlock] at hk; omega⟩
  obtain ⟨mi, hmi⟩ : ∃ mi, mi = manyI many := ⟨_, rfl⟩
  have HMI := Lib.hid hmi
  have HMANY := Lib.hid hmany
  rw [← hmi]
  obtain ⟨sw, hsw⟩ : ∃ sw, sw = bs word := ⟨_, rfl⟩
  have HSW := Lib.hid hsw
  rw [← hsw]
  obtain ⟨o, ho⟩ : ∃ o, o = wordsR word many l := ⟨_, rfl⟩
  have HO := Lib.hid ho
  rw [← ho]
  have hll9 : l.length ≤ 100000 := hl
  have HLL9 := Lib.hid hll9
  clear hs hsl hsz hl hmi hsw ho hmany hll9
  go_enter Tryz.func51, Tryz.ntmps51
  go_wp2
  go_loopw [8, 9] (fun u c wr => ∃ k : Nat, k ≤ s.size ∧ c = .int .i64 k ∧ OwnG KS w wr u (wordsT (s.data.toList.take k))) (fun _ c _ => s.size - (intOf c).toNat)
  case atStart => exact ⟨0, Nat.zero_le _, rfl, H0.out⟩
  case round =>
    obtain ⟨k, hk, rfl, hO⟩ := hrel
    have HOW := Lib.hid hO
    by_cases hlt : k < s.size
    · have hsn := take_snocB s k hlt
      have hws := words_snoc (s.data.toList.take k) s[k]
      rw [← hsn] at hws
      obtain ⟨hwl1, hwl2⟩ := wordsT_len (s.data.toList.take k)
      have htl : (s.data.toList.take k).length ≤ k := List.length_take_le _ _
      by_cases h32 : s[k] = 32
      · rw [if_pos h32] at hws
        have HWS := Lib.hid hws
        have HLL : Hid ((wordsT (s.data.toList.take k)).length ≤ 100001) := Lib.hid (by omega)
        have e1 : ((s[k].toNat : Int) == 32) = true := by rw [h32]; rfl
        clear h32 hws hsn hwl1 hwl2 htl hO
        generalize wordsT (s.data.toList.take k) = ps at *
        go_wp2_with (at_builtin; refine wpList_G KS rfl _ _ rfl ps rfl (some ⟨wr.heap.size, 0, none⟩) 1 1 [[]] rfl rfl ?hb (HOW.out.below ((Below.refl _ wr).alloc (Nat.le_refl _) (.cells #[.string ⟨#[]⟩] 9))) (Src.one (heap_alloc_new wr _)) ?_; (case hb => (have := HLL.out; omega)); intro v4 w4 h4; have H4 := Lib.hid h4; clear h4)
        go_roundw
        case rel => exact ⟨k + 1, by omega, by go_num, by rw [HWS.out]; exact H4.out⟩
        case measure => simp [intOf]; omega
      · rw [if_neg h32] at hws
        have HWS := Lib.hid hws
        have e1 : ((s[k].toNat : Int) == 32) = false := by
          rw [beq_eq_false_iff_ne]
          intro e
          exact h32 (UInt8.toNat.inj (by have : (32 : UInt8).toNat = 32 := rfl; omega))
        obtain ⟨q, hq⟩ : ∃ q, (wordsT (s.data.toList.take k)).length = q + 1 := ⟨(wordsT (s.data.toList.take k)).length - 1, by omega⟩
        have hq9 : q ≤ 100000 := by omega
        obtain ⟨g, cap, hu, hcell, hg1, hg2⟩ := hO.cell [] (j := q) (by omega)
        rw [hq] at hu
        subst hu
        rw [hq, Nat.add_sub_cancel] at HWS
        obtain ⟨x, hx⟩ : ∃ x, x = (wordsT (s.data.toList.take k)).getD q [] := ⟨_, rfl⟩
        have hxl : x.length ≤ 100000 := by
          have := word_le (s.data.toList.take k) (x := x) (by rw [hx, List.getD_eq_getElem?_getD, List.getElem?_eq_getElem (by omega)]; exact List.getElem_mem (by omega))
          omega
        rw [← hx] at hcell HWS
        have hfz : wr.frozen? ⟨g, q, none⟩ = false := by
          rcases hO.1.form with ⟨h, -⟩ | ⟨g', cap', h', -, -, -, hc⟩
          · cases h
          · injection h' with e1 e2 e3
            injection e1 with e1
            injection e1 with e1
            subst e1
            exact (hc q (by rw [List.length_map]; omega)).2
        have hcc : wr.cell? ⟨g, q, none⟩ = some (.string (bs x)) := hcell
        obtain ⟨y, hy⟩ : ∃ y, y = s.extract k (k + 1) := ⟨_, rfl⟩
        have hyl : y = bs [s[k]] := by
          rw [hy]
          apply ByteArray.ext
          apply Array.ext'
          rw [Lib.extract_data]
          have h1 : s.data.toList.drop k = s[k] :: s.data.toList.drop (k + 1) := List.drop_eq_getElem_cons (by simpa using hlt)
          rw [bs_list]
          first
            | (rw [h1, show k + 1 - k = 1 by omega]; rfl)
            | (rw [List.drop_take, h1, show k + 1 - k = 1 by omega]; rfl)
        have hcat : ∀ W, (Op.stringOp .add (bs x) y).run Tryz.prog W = .ok (.string (bs (x ++ [s[k]]))) W := fun W => run_cat W _ _ _ (by rw [hyl, bs_size, bs_size]; simp; omega) (by rw [hyl, bs_app])
        have hset := (HOW.out.set_ hq.symm q (x ++ [s[k]])).below (below_drewN (Below.refl _ _) 1)
        rw [← HWS.out] at hset
        have HX := Lib.hid hset
        have hw1 : IntKind.i64.wrap ((q : Int) + 1 - 1) = (q : Int) := by simp (disch := omega) only [IntWalk.i64_in]; omega
        have hw2 : IntKind.i64.wrap (q : Int) = (q : Int) := by simp (disch := omega) only [IntWalk.i64_in]
        have hw3 : IntKind.i64.wrap ((k : Int) + 1) = (k : Int) + 1 := by simp (disch := omega) only [IntWalk.i64_in]
        have ht1 : ((k : Int) + 1).toNat = k + 1 := by omega
        have hb1 : (k : Int) + 1 ≤ (s.size : Int) := by omega
        have hb2 : (k : Int) < (s.size : Int) := by omega
        have hb3 : (q : Int) < (q : Int) + 1 := by omega
        subst hy
        clear hset hws hwl1 hwl2 htl hq hx hxl hyl hO h32 hsn hcell
        go_wp2
        go_region
        go_wp2
        go_roundw
        case rel => exact ⟨k + 1, by omega, by go_num, HX.out⟩
        case measure => simp [intOf]; omega
    · obtain rfl : k = s.size := by omega
      have hF : wordsT (s.data.toList.take s.size) = wordsT l := by rw [List.take_of_length_le (by rw [Array.length_toList]; exact Nat.le_refl _), HS.out]
      rw [hF] at hO
      have hwl := (wordsT_len l).1
      cases hw : wordsT l with
      | nil => exact absurd hw (wordsT_ne l)
      | cons x ws =>
        rw [hw] at hO hwl
        rw [List.length_cons] at hwl
        have hwl9 : ws.length ≤ 100000 := by have := HLL9.out; omega
        obtain ⟨nw, hnw⟩ : ∃ nw, nw = ws.length := ⟨_, rfl⟩
        obtain ⟨g, cap, hu, hcell, hg1, hg2⟩ := hO.cell [] (j := 0) (by simp)
        obtain ⟨A9, cap9, hu9, hcap1, hcap2⟩ := hO.form
        rw [hu] at hu9
        injection hu9 with e1 e2 e3
        subst e1 e3
        rw [List.length_cons, ← hnw] at hu hcap1
        subst hu
        have hx0 : wr.cell? ⟨g, 0, none⟩ = some (.string (bs x)) := hcell
        have HWQ : Hid (Wds wr g ws) := Lib.hid fun j hj => by
          obtain ⟨g', cap', h1, h2, -, -⟩ := hO.cell [] (j := j + 1) (by rw [List.length_cons]; omega)
          injection h1 with e1 e2 e3
          injection e1 with e1
          injection e1 with e1
          subst e1
          rw [Nat.add_comm 1 j, h2]
          rfl
        have HBW := Lib.hid hO.2.1
        have HOW := HO.out
        unfold wordsR at HOW
        rw [hw] at HOW
        simp only at HOW
        have HNW := Lib.hid hnw
        have HOO := Lib.hid HOW
        have HGG : Hid (w.heap.size ≤ g ∧ g < wr.heap.size) := Lib.hid ⟨hg1, hg2⟩
        clear HOW hF hO hlt hwl hw hcell hg1 hg2 hcap2 hnw
        by_cases hx : x = word
        · have hxs : (!(bs x).toList == sw.toList) = false := by rw [HSW.out, hx]; simp
          by_cases hw0 : ws = []
          · have hn0 : nw = 0 := by rw [HNW.out, hw0]; rfl
            have hl2 : (nw : Int) + 1 < 2 := by omega
            clear hn0
            have HF : Hid (∀ W, Below w.heap.size w W → WordsQ w o (.returned (.tuple #[.slice none 0 0, .bool false])) W) := Lib.hid fun W hW => ⟨hW, by rw [HOO.out, if_neg (fun h => h.2.1 hw0)]⟩
            have hmc : mi < 0 ∨ (0 ≤ mi ∧ mi ≤ 100) := by
              rw [HMI.out]
              cases many with
              | none => exact .inl (by decide)
              | some m => exact .inr ⟨by show (0 : Int) ≤ (m : Int); omega, by have := HMANY.out m rfl; show (m : Int) ≤ 100; omega⟩
            clear hx hw0
            generalize bs x = sx at *
            rcases hmc with hmc | ⟨hmc, hmc2⟩
            · go_wp2
              go_returns
              exact HF.out _ HBW.out
            · by_cases hm1 : ((nw : Int) + 1 != mi + 1) = true
              · go_wp2
                go_returns
                exact HF.out _ HBW.out
              · replace hm1 : ((nw : Int) + 1 != mi + 1) = false := by simpa using hm1
                go_wp2
                go_returns
                exact HF.out _ HBW.out
          · have hw1 : 1 ≤ nw := by rw [HNW.out]; exact List.length_pos_iff.2 hw0
            have hl2 : ¬ (nw : Int) + 1 < 2 := by omega
            by_cases hmm : ∀ m ∈ many, ws.length = m
            · have HF : Hid (∀ W, wr = W → WordsQ w o (.returned (.tuple #[.slice (some ⟨g, 1, none⟩) nw (cap - 1), .bool true])) W) := Lib.hid fun W hW => by
                subst hW
                rw [HOO.out, if_pos ⟨hx, hw0, hmm⟩, HNW.out]
                exact ⟨HBW.out, g, _, rfl, HWQ.out, HGG.out⟩
              have hmc : mi < 0 ∨ (0 ≤ mi ∧ mi ≤ 100 ∧ ((nw : Int) + 1 != mi + 1) = false) := by
                rw [HMI.out]
                cases many with
                | none => exact .inl (by decide)
                | some m => exact .inr ⟨by show (0 : Int) ≤ (m : Int); omega, by have := HMANY.out m rfl; show (m : Int) ≤ 100; omega, by rw [bne_eq_false_iff_eq, HNW.out, hmm m rfl]; rfl⟩
              clear hx hw0 hmm
              generalize bs x = sx at *
              rcases hmc with hmc | ⟨hmc, hmc2, hmc3⟩
              · go_wp2
                go_returns
                exact HF.out _ rfl
              · go_wp2
                go_returns
                exact HF.out _ rfl
            · obtain ⟨m, hm, hmn⟩ : ∃ m, many = some m ∧ ws.length ≠ m := by
                cases many with
                | none => exact absurd (fun m hm => by cases hm) hmm
                | some m => exact ⟨m, rfl, fun e => hmm (fun m' hm' => by cases hm'; exact e)⟩
              have HF : Hid (∀ W, Below w.heap.size w W → WordsQ w o (.returned (.tuple #[.slice none 0 0, .bool false])) W) := Lib.hid fun W hW => ⟨hW, by rw [HOO.out, if_neg (fun h => hmm h.2.2)]⟩
              have hm1 : mi = (m : Int) := by rw [HMI.out, hm]; rfl
              have hm2 : m ≤ 100 := HMANY.out m (by rw [hm]; rfl)
              have hm3 : ((nw : Int) + 1 != (m : Int) + 1) = true := by
                have := HNW.out
                rw [bne_iff_ne]; omega
              subst hm1
              clear hx hw0 hmm hm hmn
              generalize bs x = sx at *
              go_wp2
              go_returns
              exact HF.out _ HBW.out
        · have hxs : (!(bs x).toList == sw.toList) = true := by
            rw [HSW.out, Lib.toList_data, Lib.toList_data, bs_list, bs_list]
            simpa using hx
          have HF : Hid (∀ W, Below w.heap.size w W → WordsQ w o (.returned (.tuple #[.slice none 0 0, .bool false])) W) := Lib.hid fun W hW => ⟨hW, by rw [HOO.out, if_neg (fun h => hx h.1)]⟩
          clear hx
          generalize bs x = sx at *
          go_wp2
          go_returns
          exact HF.out _ HBW.out
end Go.Proofs.YtamgbfkpblpfiaaGreatDoor
/-
  The document's reports: the first two lines, walked.
-/
namespace Go.Proofs.YtamgbfkpblpfiaaGreatDoor
open Go.ChangeShapes Go.WideShapes Go.ChangeAt Go.RowKit
set_option linter.unusedVariables false
set_option linter.unusedSimpArgs false
/-- The k-th of the first six lines, without its end. -/
def rdK (k : Nat) (d : RpD) (l : List UInt8) : Option RpD := match k with
  | 0 => (match wordsR wVer (some 1) l with
    | some ws => (match idxL (ws.getD 0 []) wordsL with | some i => some { d with verdict := (i : Int) } | none => none)
    | none => none)
  | 1 => (match wordsR wDep (some 1) l with
    | some ws => (match numM great (ws.getD 0 []) with | some n => some { d with depth := (n : Int) } | none => none)
    | none => none)
  | 2 => (match wordsR wFau (some 2) l with
    | some ws => (match idxL (ws.getD 0 []) namesL with
      | some i => (match numM great (ws.getD 1 []) with | some n => some { d with fault := (i : Int), place := (n : Int) } | none => none)
      | none => none)
    | none => none)
  | 3 => (match wordsR wCal (some 2) l with
    | some ws => (match numM great (ws.getD 0 []) with
      | some a => (match numM great (ws.getD 1 []) with | some b => some { d with calls := (a : Int), conf := (b : Int) } | none => none)
      | none => none)
    | none => none)
  | 4 => (match wordsR wSpe (some 1) l with
    | some ws => if ws.getD 0 [] = wYes then some { d with spent := true } else if ws.getD 0 [] = wNo then some d else none
    | none => none)
  | _ => (match wordsR wPor none l with
    | some ws => (match portsW ws with | some l => some { d with ports := l } | none => none)
    | none => none)
theorem rdL_K (k : Nat) (d : RpD) (s : List UInt8) : rdL k d s = match cutT s with | some (l, r) => (match rdK k d l with | some d' => some (d', r) | none => none) | none => none := by
  unfold rdL rdK
  split
  · rw [lineR_words]
    cases cutT s with
    | none => rfl
    | some q =>
      obtain ⟨l, r⟩ := q
      simp only
      cases wordsR wVer (some 1) l with
      | none => rfl
      | some ws => simp only; cases idxL (ws.getD 0 []) wordsL <;> rfl
  · rw [lineR_words]
    cases cutT s with
    | none => rfl
    | some q =>
      obtain ⟨l, r⟩ := q
      simp only
      cases wordsR wDep (some 1) l with
      | none => rfl
      | some ws => simp only; cases numM great (ws.getD 0 []) <;> rfl
  · rw [lineR_words]
    cases cutT s with
    | none => rfl
    | some q =>
      obtain ⟨l, r⟩ := q
      simp only
      cases wordsR wFau (some 2) l with
      | none => rfl
      | some ws =>
        simp only
        cases idxL (ws.getD 0 []) namesL with
        | none => rfl
        | some i => simp only; cases numM great (ws.getD 1 []) <;> rfl
  · rw [lineR_words]
    cases cutT s with
    | none => rfl
    | some q =>
      obtain ⟨l, r⟩ := q
      simp only
      cases wordsR wCal (some 2) l with
      | none => rfl
      | some ws =>
        simp only
        cases numM great (ws.getD 0 []) with
        | none => rfl
        | some i => simp only; cases numM great (ws.getD 1 []) <;> rfl
  · rw [lineR_words]
    cases cutT s with
    | none => rfl
    | some q =>
      obtain ⟨l, r⟩ := q
      simp only
      cases wordsR wSpe (some 1) l with
      | none => rfl
      | some ws => simp only; split <;> first | rfl | (split <;> rfl)
  · rw [lineR_words]
    cases cutT s with
    | none => rfl
    | some q =>
      obtain ⟨l, r⟩ := q
      simp only
      cases wordsR wPor none l with
      | none => rfl
      | some ws => simp only; cases portsW ws <;> rfl
/-- What one of the lines leaves in the document's report. -/
def LineD (w : World) (g : Nat) (vl vm vi : Value) (o : Option RpD) (e : Ending) (w' : World) : Prop := Chg (fun k => k = g) w w' ∧ match o with
  | some d' => e = .returned (.bool true) ∧ ∃ vp, Blk w' g 33 (rpA d' vl vm vi vp) ∧ PoAt w' g vp d'.ports
  | none => e = .returned (.bool false)
theorem words_of {word l : List UInt8} {many : Option Nat} {ws : List (List UInt8)} (h : wordsR word many l = some ws) (hl : l.length ≤ 100000) : (∀ m ∈ many, ws.length = m) ∧ (∀ y ∈ ws, y.length ≤ 100000) ∧ ws.length ≤ 100000 ∧ ws ≠ [] := by
  unfold wordsR at h
  cases hw : wordsT l with
  | nil => rw [hw] at h; cases h
  | cons x xs =>
    rw [hw] at h
    simp only at h
    split at h
    · rename_i hh
      injection h with h
      subst h
      have h1 := (wordsT_len l).1
      rw [hw, List.length_cons] at h1
      refine ⟨hh.2.2, fun y hy => ?_, by omega, hh.2.1⟩
      have := word_le l (x := y) (by rw [hw]; exact List.mem_cons_of_mem _ hy)
      omega
    · cases h
set_option maxHeartbeats 4000000 in
set_option maxRecDepth 100000 in
theorem dline0_ {w : World} {g : Nat} {d : RpD} {vl vm vi vp : Value} {l : List UInt8} (h : Blk w g 33 (rpA d vl vm vi vp)) (hp : PoAt w g vp d.ports) (hl : l.length ≤ 100000) :
    Calls Tryz.prog 24 #[.pointer (some ⟨g, 0, none⟩), .int .i64 0, .string (bs l)] w (LineD w g vl vm vi (rdK 0 d l)) := by
  have HWD := Lib.hid (r37_words hl wVer (some 1) (fun m hm => by injection hm with hm; omega) w)
  have hwd : bs wVer = ⟨#[118, 101, 114, 100, 105, 99, 116]⟩ := rfl
  rw [hwd] at HWD
  have HR := Lib.hid h
  have HP := Lib.hid hp
  have HLL := Lib.hid hl
  obtain ⟨o, hoo⟩ : ∃ o, o = rdK 0 d l := ⟨_, rfl⟩
  rw [← hoo]
  have HOO := Lib.hid hoo
  generalize bs l = sl at *
  clear h hp hl hwd hoo
  cases ho : wordsR wVer (some 1) l with
  | none =>
    rw [ho] at HWD
    have HON : Hid (o = none) := Lib.hid (by rw [HOO.out]; simp only [rdK, ho])
    clear ho
    go_enter Tryz.func24, Tryz.ntmps24
    go_wp2_with fail
    refine HWD.out.mono ?_
    rintro e w1 ⟨hb, rfl⟩
    have HF : Hid (LineD w g vl vm vi o (.returned (.bool false)) w1) := Lib.hid (by rw [HON.out]; exact ⟨Chg.of_below hb, rfl⟩)
    clear hb
    go_wp2
    go_ret
    exact HF.out
  | some ws =>
    rw [ho] at HWD
    obtain ⟨hw1, hw2, -, -⟩ := words_of ho HLL.out
    have HWL : Hid (ws.length = 1) := Lib.hid (hw1 1 rfl)
    have HWY := Lib.hid hw2
    have HWR := Lib.hid ho
    have HWA : Hid (∀ k, k < 4 → wordsA[k]? = some (.string (bs (wordsL.getD k [])))) := Lib.hid wordsA_at
    have HVD : Hid (∀ w, Calls Tryz.prog 53 #[] w fun e w' => e = .returned (.slice (some ⟨w.heap.size, 0, none⟩) 4 4) ∧ w' = w.alloc (.cells wordsA 9)) := Lib.hid r37_verdicts
    generalize wordsA = cs at *
    clear ho hw1 hw2
    go_enter Tryz.func24, Tryz.ntmps24
    go_wp2_with fail
    refine HWD.out.mono ?_
    rintro e w1 ⟨hb, b, c, rfl, hws, hb1, hb2⟩
    rw [HWL.out]
    have HB := Lib.hid hb
    have HWS := Lib.hid hws
    have HBG : Hid (b ≠ g) := Lib.hid (by have := HR.out.lt; omega)
    have HB1 := Lib.hid (HR.out.below hb HR.out.lt)
    have q0 := hws 0 (by have := HWL.out; omega)
    obtain ⟨y0, hy0⟩ : ∃ y, y = ws.getD 0 [] := ⟨_, rfl⟩
    rw [← hy0] at q0
    unfold strV at q0
    have HY0 := Lib.hid hy0
    clear hws hb hb1 hb2 hy0
    have q0d : w1.drew.cell? ⟨b, 1 + 0, none⟩ = some (.string (bs y0)) := q0
    obtain ⟨W3, hW3⟩ : ∃ W3, W3 = (w1.alloc (.cells cs 9)).drew := ⟨_, rfl⟩
    have hB3 : Below w1.heap.size w1 W3 := by rw [hW3]; exact ((Below.refl _ w1).alloc (Nat.le_refl _) _).drew
    have q0e := cell_below q0 hB3
    have HIX : Hid (Calls Tryz.prog 52 #[.string (bs y0), .slice (some ⟨w1.heap.size, 0, none⟩) 4 4] W3 fun e w' => e = .returned (.int .i64 (idxI y0 wordsL)) ∧ W3 = w') := Lib.hid (r37_index (c := 4) wordsL y0 (by decide) (by omega) (fun j hj => by
      have hB := (Blk.new w1 9 cs).cell j
      rw [hW3]
      show (w1.alloc (.cells cs 9)).cell? ⟨w1.heap.size, j, none⟩ = _
      rw [hB, HWA.out j hj]))
    have h3 := HB1.out.below hB3 HB1.out.lt
    have k0 : W3.cell? ⟨g, 0, none⟩ = some (.int .i64 d.verdict) := h3.cell 0
    have f0 := h3.frozen 0
    have ez : ∀ i, W3.setCell ⟨g, 0, none⟩ (.int .i64 i) = ((w1.alloc (.cells cs 9)).setCell ⟨g, 0, none⟩ (.int .i64 i)).drew := fun i => by rw [hW3]; rfl
    have HZ : Hid (∀ i, LineD w g vl vm vi (some { d with verdict := i }) (.returned (.bool true)) (W3.setCell ⟨g, 0, none⟩ (.int .i64 i)) ∧ LineD w g vl vm vi none (.returned (.bool false)) (W3.setCell ⟨g, 0, none⟩ (.int .i64 i))) := Lib.hid fun i => by
      have hc : Chg (fun k => k = g) w (W3.setCell ⟨g, 0, none⟩ (.int .i64 i)) := (Chg.of_below (S := fun k => k = g) (HB.out.trans (hB3.mono HB.out.size))).setCell (p := ⟨g, 0, none⟩) (.inl rfl) _
      exact ⟨⟨hc, rfl, vp, h3.set_ 0 (.int .i64 i), HP.out.chg hc⟩, hc, rfl⟩
    have cz : ∀ i, (W3.setCell ⟨g, 0, none⟩ (.int .i64 i)).cell? ⟨g, 0, none⟩ = some (.int .i64 i) := fun i => (h3.set_ 0 (.int .i64 i)).cell 0
    simp only [ez] at HZ cz
    replace cz : ∀ i, ((w1.alloc (.cells cs 9)).setCell ⟨g, 0, none⟩ (.int .i64 i)).cell? ⟨g, 0, none⟩ = some (.int .i64 i) := cz
    rw [hW3] at HIX q0e k0 f0
    clear hB3 h3 hW3 ez
    have HOI : Hid (o = match idxL y0 wordsL with | some i => some { d with verdict := (i : Int) } | none => none) := Lib.hid (by rw [HOO.out]; simp only [rdK, HWR.out]; rw [← HY0.out])
    unfold idxI at HIX
    cases hi : idxL y0 wordsL with
    | none =>
      rw [hi] at HIX HOI
      simp only at HIX HOI
      have HF : Hid (LineD w g vl vm vi o (.returned (.bool false)) (((w1.alloc (.cells cs 9)).setCell ⟨g, 0, none⟩ (.int .i64 (-1))).drew)) := Lib.hid (by rw [HOI.out]; exact (HZ.out (-1)).2)
      clear hi
      generalize bs y0 = sy at *
      go_wp2_with fail
      go_region_with (first
        | (go_at_call 53; (with_reducible refine (HVD.out _).mono ?_); rintro e w4 ⟨rfl, rfl⟩)
        | (go_at_call 52; (with_reducible refine HIX.out.mono ?_); rintro e w4 ⟨rfl, rfl⟩))
      all_goals
        go_wp2
        go_ret
        exact HF.out
    | some i =>
      rw [hi] at HIX HOI
      simp only at HIX HOI
      have hi0 : (0 : Int) ≤ (i : Int) := by omega
      have HF : Hid (LineD w g vl vm vi o (.returned (.bool true)) (((w1.alloc (.cells cs 9)).setCell ⟨g, 0, none⟩ (.int .i64 (i : Int))).drew)) := Lib.hid (by rw [HOI.out]; exact (HZ.out (i : Int)).1)
      clear hi
      generalize bs y0 = sy at *
      go_wp2_with fail
      go_region_with (first
        | (go_at_call 53; (with_reducible refine (HVD.out _).mono ?_); rintro e w4 ⟨rfl, rfl⟩)
        | (go_at_call 52; (with_reducible refine HIX.out.mono ?_); rintro e w4 ⟨rfl, rfl⟩))
      all_goals
        go_wp2
        go_ret
        exact HF.out
set_option maxHeartbeats 4000000 in
set_option maxRecDepth 100000 in
theorem dline1_ {w : World} {g : Nat} {d : RpD} {vl vm vi vp : Value} {l : List UInt8} (h : Blk w g 33 (rpA d vl vm vi vp)) (hp : PoAt w g vp d.ports) (hl : l.length ≤ 100000) :
    Calls Tryz.prog 24 #[.pointer (some ⟨g, 0, none⟩), .int .i64 1, .string (bs l)] w (LineD w g vl vm vi (rdK 1 d l)) := by
  have HWD := Lib.hid (r37_words hl wDep (some 1) (fun m hm => by injection hm with hm; omega) w)
  have hwd : bs wDep = ⟨#[100, 101, 112, 116, 104]⟩ := rfl
  rw [hwd] at HWD
  have HR := Lib.hid h
  have HP := Lib.hid hp
  have HLL := Lib.hid hl
  obtain ⟨o, hoo⟩ : ∃ o, o = rdK 1 d l := ⟨_, rfl⟩
  rw [← hoo]
  have HOO := Lib.hid hoo
  generalize bs l = sl at *
  clear h hp hl hwd hoo
  cases ho : wordsR wDep (some 1) l with
  | none =>
    rw [ho] at HWD
    have HON : Hid (o = none) := Lib.hid (by rw [HOO.out]; simp only [rdK, ho])
    clear ho
    go_enter Tryz.func24, Tryz.ntmps24
    go_wp2_with fail
    refine HWD.out.mono ?_
    rintro e w1 ⟨hb, rfl⟩
    have HF : Hid (LineD w g vl vm vi o (.returned (.bool false)) w1) := Lib.hid (by rw [HON.out]; exact ⟨Chg.of_below hb, rfl⟩)
    clear hb
    go_wp2
    go_ret
    exact HF.out
  | some ws =>
    rw [ho] at HWD
    obtain ⟨hw1, hw2, -, -⟩ := words_of ho HLL.out
    have HWL : Hid (ws.length = 1) := Lib.hid (hw1 1 rfl)
    have HWY := Lib.hid hw2
    have HWR := Lib.hid ho
    clear ho hw1 hw2
    go_enter Tryz.func24, Tryz.ntmps24
    go_wp2_with fail
    refine HWD.out.mono ?_
    rintro e w1 ⟨hb, b, c, rfl, hws, hb1, hb2⟩
    rw [HWL.out]
    have HB := Lib.hid hb
    have HWS := Lib.hid hws
    have HBG : Hid (b ≠ g) := Lib.hid (by have := HR.out.lt; omega)
    have HB1 := Lib.hid (HR.out.below hb HR.out.lt)
    have q0 := hws 0 (by have := HWL.out; omega)
    obtain ⟨y0, hy0⟩ : ∃ y, y = ws.getD 0 [] := ⟨_, rfl⟩
    rw [← hy0] at q0
    unfold strV at q0
    have HY0 := Lib.hid hy0
    clear hws hb hb1 hb2 hy0
    have HN0 := fun W => r37_number (y := y0) (HWY.out y0 (by rw [HY0.out, List.getD_eq_getElem?_getD, List.getElem?_eq_getElem (by have := HWL.out; omega)]; exact List.getElem_mem _)) 1099511627776 (by omega) W
    have HN0 := Lib.hid HN0
    have HOI : Hid (o = match numM great y0 with | some n => some { d with depth := (n : Int) } | none => none) := Lib.hid (by rw [HOO.out]; simp only [rdK, HWR.out]; rw [← HY0.out])
    generalize bs y0 = sy at *
    go_wp2_with fail
    refine (HN0.out _).mono ?_
    rintro e w2 ⟨hb2, he⟩
    have h2 := HB1.out.below hb2 HB1.out.lt
    have k1 : w2.cell? ⟨g, 1, none⟩ = some (.int .i64 d.depth) := h2.cell 1
    have f1 := h2.frozen 1
    have HZ : Hid (∀ i, LineD w g vl vm vi (some { d with depth := i }) (.returned (.bool true)) (w2.setCell ⟨g, 1, none⟩ (.int .i64 i)) ∧ LineD w g vl vm vi none (.returned (.bool false)) (w2.setCell ⟨g, 1, none⟩ (.int .i64 i))) := Lib.hid fun i => by
      have hc : Chg (fun k => k = g) w (w2.setCell ⟨g, 1, none⟩ (.int .i64 i)) := (Chg.of_below (S := fun k => k = g) (HB.out.trans (hb2.mono HB.out.size))).setCell (p := ⟨g, 1, none⟩) (.inl rfl) _
      exact ⟨⟨hc, rfl, vp, h2.set_ 1 (.int .i64 i), HP.out.chg hc⟩, hc, rfl⟩
    clear h2 hb2
    cases hn : numM great y0 with
    | none =>
      rw [hn] at he HOI
      subst he
      have HF : Hid (LineD w g vl vm vi o (.returned (.bool false)) (w2.setCell ⟨g, 1, none⟩ (.int .i64 0))) := Lib.hid (by rw [HOI.out]; exact (HZ.out 0).2)
      clear hn
      go_wp2
      go_ret
      exact HF.out
    | some n =>
      rw [hn] at he HOI
      subst he
      have HF : Hid (LineD w g vl vm vi o (.returned (.bool true)) (w2.setCell ⟨g, 1, none⟩ (.int .i64 (n : Int)))) := Lib.hid (by rw [HOI.out]; exact (HZ.out n).1)
      clear hn
      go_wp2
      go_ret
      exact HF.out
end Go.Proofs.YtamgbfkpblpfiaaGreatDoor
/-
  The document's reports: the fault's, the calls' and the spent line, walked.
-/
namespace Go.Proofs.YtamgbfkpblpfiaaGreatDoor
open Go.ChangeShapes Go.WideShapes Go.ChangeAt Go.RowKit
set_option linter.unusedVariables false
set_option linter.unusedSimpArgs false
set_option maxHeartbeats 4000000 in
set_option maxRecDepth 100000 in
theorem dline2_ {w : World} {g : Nat} {d : RpD} {vl vm vi vp : Value} {l : List UInt8} (h : Blk w g 33 (rpA d vl vm vi vp)) (hp : PoAt w g vp d.ports) (hl : l.length ≤ 100000) :
    Calls Tryz.prog 24 #[.pointer (some ⟨g, 0, none⟩), .int .i64 2, .string (bs l)] w (LineD w g vl vm vi (rdK 2 d l)) := by
  have HWD := Lib.hid (r37_words hl wFau (some 2) (fun m hm => by injection hm with hm; omega) w)
  have hwd : bs wFau = ⟨#[102, 97, 117, 108, 116]⟩ := rfl
  rw [hwd] at HWD
  have HR := Lib.hid h
  have HP := Lib.hid hp
  have HLL := Lib.hid hl
  obtain ⟨o, hoo⟩ : ∃ o, o = rdK 2 d l := ⟨_, rfl⟩
  rw [← hoo]
  have HOO := Lib.hid hoo
  generalize bs l = sl at *
  clear h hp hl hwd hoo
  cases ho : wordsR wFau (some 2) l with
  | none =>
    rw [ho] at HWD
    have HON : Hid (o = none) := Lib.hid (by rw [HOO.out]; simp only [rdK, ho])
    clear ho
    go_enter Tryz.func24, Tryz.ntmps24
    go_wp2_with fail
    refine HWD.out.mono ?_
    rintro e w1 ⟨hb, rfl⟩
    have HF : Hid (LineD w g vl vm vi o (.returned (.bool false)) w1) := Lib.hid (by rw [HON.out]; exact ⟨Chg.of_below hb, rfl⟩)
    clear hb
    go_wp2
    go_ret
    exact HF.out
  | some ws =>
    rw [ho] at HWD
    obtain ⟨hw1, hw2, -, -⟩ := words_of ho HLL.out
    have HWL : Hid (ws.length = 2) := Lib.hid (hw1 2 rfl)
    have HWY := Lib.hid hw2
    have HWR := Lib.hid ho
    have HWA : Hid (∀ k, k < 18 → namesA[k]? = some (.string (bs (namesL.getD k [])))) := Lib.hid namesA_at
    have HVD : Hid (∀ w, Calls Tryz.prog 55 #[] w fun e w' => e = .returned (.slice (some ⟨w.heap.size, 0, none⟩) 18 18) ∧ w' = w.alloc (.cells namesA 9)) := Lib.hid r02_Names
    generalize namesA = cs at *
    clear ho hw1 hw2
    go_enter Tryz.func24, Tryz.ntmps24
    go_wp2_with fail
    refine HWD.out.mono ?_
    rintro e w1 ⟨hb, b, c, rfl, hws, hb1, hb2⟩
    rw [HWL.out]
    have HB := Lib.hid hb
    have HWS := Lib.hid hws
    have HBG : Hid (b ≠ g) := Lib.hid (by have := HR.out.lt; omega)
    have HB1 := Lib.hid (HR.out.below hb HR.out.lt)
    have q0 := hws 0 (by have := HWL.out; omega)
    obtain ⟨y0, hy0⟩ : ∃ y, y = ws.getD 0 [] := ⟨_, rfl⟩
    rw [← hy0] at q0
    unfold strV at q0
    have HY0 := Lib.hid hy0
    have q1 := hws 1 (by have := HWL.out; omega)
    obtain ⟨y1, hy1⟩ : ∃ y, y = ws.getD 1 [] := ⟨_, rfl⟩
    rw [← hy1] at q1
    unfold strV at q1
    have HY1 := Lib.hid hy1
    clear hws hb hb1 hb2 hy0 hy1
    have HN1 : Hid (∀ W, Calls Tryz.prog 54 #[.string (bs y1), .int .i64 1099511627776] W (NumMQ W (numM great y1))) := Lib.hid fun W => r37_number (y := y1) (HWY.out y1 (by rw [HY1.out, List.getD_eq_getElem?_getD, List.getElem?_eq_getElem (by have := HWL.out; omega)]; exact List.getElem_mem _)) 1099511627776 (by omega) W
    have q0d : w1.drew.cell? ⟨b, 1 + 0, none⟩ = some (.string (bs y0)) := q0
    obtain ⟨W3, hW3⟩ : ∃ W3, W3 = (w1.alloc (.cells cs 9)).drew := ⟨_, rfl⟩
    have hB3 : Below w1.heap.size w1 W3 := by rw [hW3]; exact ((Below.refl _ w1).alloc (Nat.le_refl _) _).drew
    have q0e := cell_below q0 hB3
    have q1e := cell_below q1 hB3
    have HIX : Hid (Calls Tryz.prog 52 #[.string (bs y0), .slice (some ⟨w1.heap.size, 0, none⟩) 18 18] W3 fun e w' => e = .returned (.int .i64 (idxI y0 namesL)) ∧ W3 = w') := Lib.hid (r37_index (c := 18) namesL y0 (by decide) (by omega) (fun j hj => by
      have hB := (Blk.new w1 9 cs).cell j
      rw [hW3]
      show (w1.alloc (.cells cs 9)).cell? ⟨w1.heap.size, j, none⟩ = _
      rw [hB, HWA.out j hj]))
    have HB3 := Lib.hid (HB1.out.below hB3 HB1.out.lt)
    have HBW := Lib.hid (HB.out.trans (hB3.mono HB.out.size))
    have HNQ := Lib.hid (HN1.out W3)
    rw [hW3] at HIX q0e q1e
    have HW3 := Lib.hid hW3
    clear hB3 hW3
    have HOI : Hid (o = match idxL y0 namesL with | some i => (match numM great y1 with | some n => some { d with fault := (i : Int), place := (n : Int) } | none => none) | none => none) := Lib.hid (by
      rw [HOO.out]; simp only [rdK, HWR.out]; rw [← HY0.out, ← HY1.out]
      all_goals (cases idxL y0 namesL with | none => rfl | some i => cases numM great y1 <;> rfl))
    have HIB : Hid (idxI y0 namesL = -1 ∧ idxL y0 namesL = none ∨ ∃ i : Nat, idxI y0 namesL = (i : Int) ∧ idxL y0 namesL = some i ∧ i < 18) := Lib.hid (by
      unfold idxI
      cases hi : idxL y0 namesL with
      | none => exact .inl ⟨rfl, rfl⟩
      | some i => exact .inr ⟨i, rfl, rfl, (idx_inv hi).1⟩)
    generalize idxI y0 namesL = ix at *
    generalize hs0 : bs y0 = sy0 at *
    generalize hs1 : bs y1 = sy1 at *
    clear hs0 hs1
    go_wp2_with fail
    go_region_with (first
      | (go_at_call 55; (with_reducible refine (HVD.out _).mono ?_); rintro e w4 ⟨rfl, rfl⟩)
      | (go_at_call 52; (with_reducible refine HIX.out.mono ?_); rintro e w4 ⟨rfl, rfl⟩))
    all_goals
      go_wp2_with fail
      rw [← HW3.out]
      refine HNQ.out.mono ?_
      rintro e w5 ⟨hb5, he⟩
      have h5 := HB3.out.below hb5 HB3.out.lt
      have k2 : w5.cell? ⟨g, 2, none⟩ = some (.int .i64 d.fault) := h5.cell 2
      have k3 : w5.cell? ⟨g, 3, none⟩ = some (.int .i64 d.place) := h5.cell 3
      have f2 := h5.frozen 2
      have f3 := h5.frozen 3
      have HZ : Hid (∀ i n, LineD w g vl vm vi (some { d with fault := i, place := n }) (.returned (.bool true)) ((w5.setCell ⟨g, 2, none⟩ (.int .i64 i)).setCell ⟨g, 3, none⟩ (.int .i64 n)) ∧ LineD w g vl vm vi none (.returned (.bool false)) ((w5.setCell ⟨g, 2, none⟩ (.int .i64 i)).setCell ⟨g, 3, none⟩ (.int .i64 n))) := Lib.hid fun i n => by
        have hc : Chg (fun k => k = g) w ((w5.setCell ⟨g, 2, none⟩ (.int .i64 i)).setCell ⟨g, 3, none⟩ (.int .i64 n)) := ((Chg.of_below (S := fun k => k = g) (HBW.out.trans (hb5.mono HBW.out.size))).setCell (p := ⟨g, 2, none⟩) (.inl rfl) _).setCell (p := ⟨g, 3, none⟩) (.inl rfl) _
        exact ⟨⟨hc, rfl, vp, (Blk.set_ h5 2 (.int .i64 i)).set_ 3 (.int .i64 n), HP.out.chg hc⟩, hc, rfl⟩
      clear h5 hb5
      cases hn : numM great y1 with
      | none =>
        rw [hn] at he HOI
        subst he
        have HON : Hid (o = none) := Lib.hid (by rw [HOI.out]; cases idxL y0 namesL <;> rfl)
        have HF : Hid (LineD w g vl vm vi o (.returned (.bool false)) ((w5.setCell ⟨g, 2, none⟩ (.int .i64 ix)).setCell ⟨g, 3, none⟩ (.int .i64 0))) := Lib.hid (by rw [HON.out]; exact (HZ.out _ _).2)
        clear hn
        have hix : ix < 0 ∨ (0 : Int) ≤ ix := by omega
        rcases hix with hix | hix
        all_goals
          go_wp2
          go_ret
          exact HF.out
      | some n =>
        rw [hn] at he HOI
        subst he
        clear hn
        rcases HIB.out with ⟨hix, hno⟩ | ⟨i, hix, hso, hi18⟩
        · have HON : Hid (o = none) := Lib.hid (by rw [HOI.out, hno])
          have HF : Hid (LineD w g vl vm vi o (.returned (.bool false)) ((w5.setCell ⟨g, 2, none⟩ (.int .i64 ix)).setCell ⟨g, 3, none⟩ (.int .i64 (n : Int)))) := Lib.hid (by rw [HON.out]; exact (HZ.out _ _).2)
          have hix2 : ¬ (0 : Int) ≤ ix := by omega
          clear hno hix
          go_wp2
          go_ret
          exact HF.out
        · have HON : Hid (o = some { d with fault := ix, place := (n : Int) }) := Lib.hid (by rw [HOI.out, hso, hix])
          have HF : Hid (LineD w g vl vm vi o (.returned (.bool true)) ((w5.setCell ⟨g, 2, none⟩ (.int .i64 ix)).setCell ⟨g, 3, none⟩ (.int .i64 (n : Int)))) := Lib.hid (by rw [HON.out]; exact (HZ.out _ _).1)
          have hix2 : (0 : Int) ≤ ix := by omega
          clear hso hix
          go_wp2
          go_ret
          exact HF.out
set_option maxHeartbeats 4000000 in
set_option maxRecDepth 100000 in
theorem dline3_ {w : World} {g : Nat} {d : RpD} {vl vm vi vp : Value} {l : List UInt8} (h : Blk w g 33 (rpA d vl vm vi vp)) (hp : PoAt w g vp d.ports) (hl : l.length ≤ 100000) :
    Calls Tryz.prog 24 #[.pointer (some ⟨g, 0, none⟩), .int .i64 3, .string (bs l)] w (LineD w g vl vm vi (rdK 3 d l)) := by
  have HWD := Lib.hid (r37_words hl wCal (some 2) (fun m hm => by injection hm with hm; omega) w)
  have hwd : bs wCal = ⟨#[99, 97, 108, 108, 115]⟩ := rfl
  rw [hwd] at HWD
  have HR := Lib.hid h
  have HP := Lib.hid hp
  have HLL := Lib.hid hl
  obtain ⟨o, hoo⟩ : ∃ o, o = rdK 3 d l := ⟨_, rfl⟩
  rw [← hoo]
  have HOO := Lib.hid hoo
  generalize bs l = sl at *
  clear h hp hl hwd hoo
  cases ho : wordsR wCal (some 2) l with
  | none =>
    rw [ho] at HWD
    have HON : Hid (o = none) := Lib.hid (by rw [HOO.out]; simp only [rdK, ho])
    clear ho
    go_enter Tryz.func24, Tryz.ntmps24
    go_wp2_with fail
    refine HWD.out.mono ?_
    rintro e w1 ⟨hb, rfl⟩
    have HF : Hid (LineD w g vl vm vi o (.returned (.bool false)) w1) := Lib.hid (by rw [HON.out]; exact ⟨Chg.of_below hb, rfl⟩)
    clear hb
    go_wp2
    go_ret
    exact HF.out
  | some ws =>
    rw [ho] at HWD
    obtain ⟨hw1, hw2, -, -⟩ := words_of ho HLL.out
    have HWL : Hid (ws.length = 2) := Lib.hid (hw1 2 rfl)
    have HWY := Lib.hid hw2
    have HWR := Lib.hid ho
    clear ho hw1 hw2
    go_enter Tryz.func24, Tryz.ntmps24
    go_wp2_with fail
    refine HWD.out.mono ?_
    rintro e w1 ⟨hb, b, c, rfl, hws, hb1, hb2⟩
    rw [HWL.out]
    have HB := Lib.hid hb
    have HWS := Lib.hid hws
    have HBG : Hid (b ≠ g) := Lib.hid (by have := HR.out.lt; omega)
    have HB1 := Lib.hid (HR.out.below hb HR.out.lt)
    have q0 := hws 0 (by have := HWL.out; omega)
    obtain ⟨y0, hy0⟩ : ∃ y, y = ws.getD 0 [] := ⟨_, rfl⟩
    rw [← hy0] at q0
    unfold strV at q0
    have HY0 := Lib.hid hy0
    have q1 := hws 1 (by have := HWL.out; omega)
    obtain ⟨y1, hy1⟩ : ∃ y, y = ws.getD 1 [] := ⟨_, rfl⟩
    rw [← hy1] at q1
    unfold strV at q1
    have HY1 := Lib.hid hy1
    clear hws hb hb1 hb2 hy0 hy1
    have HN0 : Hid (∀ W, Calls Tryz.prog 54 #[.string (bs y0), .int .i64 1099511627776] W (NumMQ W (numM great y0))) := Lib.hid fun W => r37_number (y := y0) (HWY.out y0 (by rw [HY0.out, List.getD_eq_getElem?_getD, List.getElem?_eq_getElem (by have := HWL.out; omega)]; exact List.getElem_mem _)) 1099511627776 (by omega) W
    have HN1 : Hid (∀ W, Calls Tryz.prog 54 #[.string (bs y1), .int .i64 1099511627776] W (NumMQ W (numM great y1))) := Lib.hid fun W => r37_number (y := y1) (HWY.out y1 (by rw [HY1.out, List.getD_eq_getElem?_getD, List.getElem?_eq_getElem (by have := HWL.out; omega)]; exact List.getElem_mem _)) 1099511627776 (by omega) W
    have HOI : Hid (o = match numM great y0 with | some i => (match numM great y1 with | some n => some { d with calls := (i : Int), conf := (n : Int) } | none => none) | none => none) := Lib.hid (by
      rw [HOO.out]; simp only [rdK, HWR.out]; rw [← HY0.out, ← HY1.out]
      all_goals (cases numM great y0 with | none => rfl | some i => cases numM great y1 <;> rfl))
    generalize hs0 : bs y0 = sy0 at *
    generalize hs1 : bs y1 = sy1 at *
    clear hs0 hs1
    go_wp2_with fail
    refine (HN0.out _).mono ?_
    rintro e w2 ⟨hb2, he0⟩
    have q1b := cell_below q1 hb2
    have HB2 := Lib.hid hb2
    have HBW := Lib.hid (HB.out.trans (hb2.mono HB.out.size))
    have HBK := Lib.hid (HB1.out.below hb2 HB1.out.lt)
    clear hb2 q0 q1
    cases h0 : numM great y0 with
    | none =>
      rw [h0] at he0 HOI
      subst he0
      clear h0
      simp only at HOI
      go_wp2_with fail
      refine (HN1.out _).mono ?_
      rintro e w5 ⟨hb5, he⟩
      have h5 := HBK.out.below hb5 HBK.out.lt
      have k8 : w5.cell? ⟨g, 8, none⟩ = some (.int .i64 d.calls) := h5.cell 8
      have k9 : w5.cell? ⟨g, 9, none⟩ = some (.int .i64 d.conf) := h5.cell 9
      have f8 := h5.frozen 8
      have f9 := h5.frozen 9
      have HZ : Hid (∀ i n, LineD w g vl vm vi (some { d with calls := i, conf := n }) (.returned (.bool true)) ((w5.setCell ⟨g, 8, none⟩ (.int .i64 i)).setCell ⟨g, 9, none⟩ (.int .i64 n)) ∧ LineD w g vl vm vi none (.returned (.bool false)) ((w5.setCell ⟨g, 8, none⟩ (.int .i64 i)).setCell ⟨g, 9, none⟩ (.int .i64 n))) := Lib.hid fun i n => by
        have hc : Chg (fun k => k = g) w ((w5.setCell ⟨g, 8, none⟩ (.int .i64 i)).setCell ⟨g, 9, none⟩ (.int .i64 n)) := ((Chg.of_below (S := fun k => k = g) (HBW.out.trans (hb5.mono HBW.out.size))).setCell (p := ⟨g, 8, none⟩) (.inl rfl) _).setCell (p := ⟨g, 9, none⟩) (.inl rfl) _
        exact ⟨⟨hc, rfl, vp, (Blk.set_ h5 8 (.int .i64 i)).set_ 9 (.int .i64 n), HP.out.chg hc⟩, hc, rfl⟩
      clear h5 hb5
      cases hn : numM great y1 with
      | none =>
        rw [hn] at he
        subst he
        have HF : Hid (LineD w g vl vm vi o (.returned (.bool false)) ((w5.setCell ⟨g, 8, none⟩ (.int .i64 0)).setCell ⟨g, 9, none⟩ (.int .i64 0))) := Lib.hid (by rw [HOI.out];  exact (HZ.out _ _).2)
        clear hn
        go_wp2
        go_ret
        exact HF.out
      | some n =>
        rw [hn] at he
        subst he
        have HF : Hid (LineD w g vl vm vi o (.returned (.bool false)) ((w5.setCell ⟨g, 8, none⟩ (.int .i64 0)).setCell ⟨g, 9, none⟩ (.int .i64 (n : Int)))) := Lib.hid (by rw [HOI.out];  exact (HZ.out _ _).2)
        clear hn
        go_wp2
        go_ret
        exact HF.out
    | some i =>
      rw [h0] at he0 HOI
      subst he0
      clear h0
      simp only at HOI
      go_wp2_with fail
      refine (HN1.out _).mono ?_
      rintro e w5 ⟨hb5, he⟩
      have h5 := HBK.out.below hb5 HBK.out.lt
      have k8 : w5.cell? ⟨g, 8, none⟩ = some (.int .i64 d.calls) := h5.cell 8
      have k9 : w5.cell? ⟨g, 9, none⟩ = some (.int .i64 d.conf) := h5.cell 9
      have f8 := h5.frozen 8
      have f9 := h5.frozen 9
      have HZ : Hid (∀ i n, LineD w g vl vm vi (some { d with calls := i, conf := n }) (.returned (.bool true)) ((w5.setCell ⟨g, 8, none⟩ (.int .i64 i)).setCell ⟨g, 9, none⟩ (.int .i64 n)) ∧ LineD w g vl vm vi none (.returned (.bool false)) ((w5.setCell ⟨g, 8, none⟩ (.int .i64 i)).setCell ⟨g, 9, none⟩ (.int .i64 n))) := Lib.hid fun i n => by
        have hc : Chg (fun k => k = g) w ((w5.setCell ⟨g, 8, none⟩ (.int .i64 i)).setCell ⟨g, 9, none⟩ (.int .i64 n)) := ((Chg.of_below (S := fun k => k = g) (HBW.out.trans (hb5.mono HBW.out.size))).setCell (p := ⟨g, 8, none⟩) (.inl rfl) _).setCell (p := ⟨g, 9, none⟩) (.inl rfl) _
        exact ⟨⟨hc, rfl, vp, (Blk.set_ h5 8 (.int .i64 i)).set_ 9 (.int .i64 n), HP.out.chg hc⟩, hc, rfl⟩
      clear h5 hb5
      cases hn : numM great y1 with
      | none =>
        rw [hn] at he
        subst he
        have HF : Hid (LineD w g vl vm vi o (.returned (.bool false)) ((w5.setCell ⟨g, 8, none⟩ (.int .i64 (i : Int))).setCell ⟨g, 9, none⟩ (.int .i64 0))) := Lib.hid (by rw [HOI.out]; rw [hn]; exact (HZ.out _ _).2)
        clear hn
        go_wp2
        go_ret
        exact HF.out
      | some n =>
        rw [hn] at he
        subst he
        have HF : Hid (LineD w g vl vm vi o (.returned (.bool true)) ((w5.setCell ⟨g, 8, none⟩ (.int .i64 (i : Int))).setCell ⟨g, 9, none⟩ (.int .i64 (n : Int)))) := Lib.hid (by rw [HOI.out]; rw [hn]; exact (HZ.out _ _).1)
        clear hn
        go_wp2
        go_ret
        exact HF.out
set_option maxHeartbeats 4000000 in
set_option maxRecDepth 100000 in
theorem dline4_ {w : World} {g : Nat} {d : RpD} {vl vm vi vp : Value} {l : List UInt8} (h : Blk w g 33 (rpA d vl vm vi vp)) (hp : PoAt w g vp d.ports) (hl : l.length ≤ 100000) (hsp : d.spent = false) :
    Calls Tryz.prog 24 #[.pointer (some ⟨g, 0, none⟩), .int .i64 4, .string (bs l)] w (LineD w g vl vm vi (rdK 4 d l)) := by
  have HWD := Lib.hid (r37_words hl wSpe (some 1) (fun m hm => by injection hm with hm; omega) w)
  have hwd : bs wSpe = ⟨#[115, 112, 101, 110, 116]⟩ := rfl
  rw [hwd] at HWD
  have HR := Lib.hid h
  have HP := Lib.hid hp
  have HLL := Lib.hid hl
  have HSP := Lib.hid hsp
  obtain ⟨o, hoo⟩ : ∃ o, o = rdK 4 d l := ⟨_, rfl⟩
  rw [← hoo]
  have HOO := Lib.hid hoo
  generalize bs l = sl at *
  clear h hp hl hwd hoo hsp
  cases ho : wordsR wSpe (some 1) l with
  | none =>
    rw [ho] at HWD
    have HON : Hid (o = none) := Lib.hid (by rw [HOO.out]; simp only [rdK, ho])
    clear ho
    go_enter Tryz.func24, Tryz.ntmps24
    go_wp2_with fail
    refine HWD.out.mono ?_
    rintro e w1 ⟨hb, rfl⟩
    have HF : Hid (LineD w g vl vm vi o (.returned (.bool false)) w1) := Lib.hid (by rw [HON.out]; exact ⟨Chg.of_below hb, rfl⟩)
    clear hb
    go_wp2
    go_ret
    exact HF.out
  | some ws =>
    rw [ho] at HWD
    obtain ⟨hw1, hw2, -, -⟩ := words_of ho HLL.out
    have HWL : Hid (ws.length = 1) := Lib.hid (hw1 1 rfl)
    have HWY := Lib.hid hw2
    have HWR := Lib.hid ho
    clear ho hw1 hw2
    go_enter Tryz.func24, Tryz.ntmps24
    go_wp2_with fail
    refine HWD.out.mono ?_
    rintro e w1 ⟨hb, b, c, rfl, hws, hb1, hb2⟩
    rw [HWL.out]
    have HB := Lib.hid hb
    have HWS := Lib.hid hws
    have HBG : Hid (b ≠ g) := Lib.hid (by have := HR.out.lt; omega)
    have HB1 := Lib.hid (HR.out.below hb HR.out.lt)
    have q0 := hws 0 (by have := HWL.out; omega)
    obtain ⟨y0, hy0⟩ : ∃ y, y = ws.getD 0 [] := ⟨_, rfl⟩
    rw [← hy0] at q0
    unfold strV at q0
    have HY0 := Lib.hid hy0
    clear hws hb hb1 hb2 hy0
    have HOI : Hid (o = if y0 = wYes then some { d with spent := true } else if y0 = wNo then some d else none) := Lib.hid (by rw [HOO.out]; simp only [rdK, HWR.out]; rw [← HY0.out])
    have k10 : w1.cell? ⟨g, 10, none⟩ = some (.bool d.spent) := HB1.out.cell 10
    have f10 := HB1.out.frozen 10
    have q0z : ∀ v, (w1.setCell ⟨g, 10, none⟩ (.bool v)).cell? ⟨b, 1 + 0, none⟩ = some (.string (bs y0)) := fun v => far_cell q0 HBG.out
    have HZ : Hid (∀ v, LineD w g vl vm vi (some { d with spent := v }) (.returned (.bool true)) (w1.setCell ⟨g, 10, none⟩ (.bool v)) ∧ LineD w g vl vm vi none (.returned (.bool false)) (w1.setCell ⟨g, 10, none⟩ (.bool v))) := Lib.hid fun v => by
      have hc : Chg (fun k => k = g) w (w1.setCell ⟨g, 10, none⟩ (.bool v)) := (Chg.of_below (S := fun k => k = g) HB.out).setCell (p := ⟨g, 10, none⟩) (.inl rfl) _
      exact ⟨⟨hc, rfl, vp, HB1.out.set_ 10 (.bool v), HP.out.chg hc⟩, hc, rfl⟩
    by_cases h1 : y0 = wYes
    · have hs1 : ((bs y0).toList == [121, 101, 115]) = true := by rw [h1, Lib.toList_data]; rfl
      have HF : Hid (LineD w g vl vm vi o (.returned (.bool true)) (w1.setCell ⟨g, 10, none⟩ (.bool true))) := Lib.hid (by rw [HOI.out, if_pos h1]; exact (HZ.out true).1)
      clear h1
      generalize bs y0 = sy at *
      go_wp2
      go_ret
      exact HF.out
    · have hs1 : ((bs y0).toList == [121, 101, 115]) = false := by rw [Lib.toList_data, bs_list, beq_eq_false_iff_ne]; exact h1
      by_cases h2 : y0 = wNo
      · have hs2 : ((bs y0).toList == [110, 111]) = true := by rw [h2, Lib.toList_data]; rfl
        have HF : Hid (LineD w g vl vm vi o (.returned (.bool true)) (w1.setCell ⟨g, 10, none⟩ (.bool false))) := Lib.hid (by
          rw [HOI.out, if_neg h1, if_pos h2]
          have := (HZ.out false).1
          have e : ({ d with spent := false } : RpD) = d := by have h := HSP.out; cases d; simp only at h; subst h; rfl
          rw [e] at this
          exact this)
        clear h1 h2
        generalize bs y0 = sy at *
        go_wp2
        go_ret
        exact HF.out
      · have hs2 : ((bs y0).toList == [110, 111]) = false := by rw [Lib.toList_data, bs_list, beq_eq_false_iff_ne]; exact h2
        have HF : Hid (LineD w g vl vm vi o (.returned (.bool false)) (w1.setCell ⟨g, 10, none⟩ (.bool false))) := Lib.hid (by rw [HOI.out, if_neg h1, if_neg h2]; exact (HZ.out false).2)
        clear h1 h2
        generalize bs y0 = sy at *
        go_wp2
        go_ret
        exact HF.out
end Go.Proofs.YtamgbfkpblpfiaaGreatDoor
/-
  The document's reports: the ports' line, walked.
-/
namespace Go.Proofs.YtamgbfkpblpfiaaGreatDoor
open Go.ChangeShapes Go.WideShapes Go.ChangeAt Go.RowKit
set_option linter.unusedVariables false
set_option linter.unusedSimpArgs false
/-- Between two ports: the document's report, with the ports so far. -/
def DInv (w1 : World) (g : Nat) (d : RpD) (vl vm vi vp : Value) (l : List Int) (wr : World) : Prop := Blk wr g 33 (rpA d vl vm vi vp) ∧ Row wr 3 1 vp l.length (l.map iv) ∧ (∀ q, vp.ownBlock = some q → w1.heap.size ≤ q) ∧ Chg (fun k => k = g) w1 wr
theorem DInv.below {w1 wr w' : World} {g : Nat} {d : RpD} {vl vm vi vp : Value} {l : List Int} (h : DInv w1 g d vl vm vi vp l wr) (hb : Below wr.heap.size wr w') : DInv w1 g d vl vm vi vp l w' :=
  ⟨h.1.below hb h.1.lt, h.2.1.chg (S := fun _ => False) (Chg.of_below hb) (fun _ _ h => h), h.2.2.1, h.2.2.2.trans (Chg.of_below (S := fun k => k = g) hb) (fun i hi => .inl hi)⟩
theorem DInv.more {w1 wr wB : World} {g : Nat} {d : RpD} {vl vm vi vp v' : Value} {l : List Int} (hr : g < w1.heap.size) (h : DInv w1 g d vl vm vi vp l wr) (x : Int) (hp : AppPost wr 3 1 vp (l.length + 1) (l.map iv ++ [.int .i64 x]) v' wB) :
    DInv w1 g d vl vm vi v' (l ++ [x]) (wB.setCell ⟨g, 11, none⟩ v') ∧ Blk wB g 33 (rpA d vl vm vi vp) := by
  obtain ⟨a1, a2, a3⟩ := hp
  obtain ⟨h1, h2, h3, h4⟩ := h
  have hne : ∀ q, vp.ownBlock = some q → q ≠ g := fun q hq => by have := h3 q hq; omega
  have hB : Blk wB g 33 (rpA d vl vm vi vp) := Blk.chg h1 a2 (fun e => hne g e rfl)
  have hv' : ∀ q, v'.ownBlock = some q → w1.heap.size ≤ q := fun q hq => by
    rcases a3 with e | e
    · rw [e] at hq; exact h3 q hq
    · rw [e] at hq; injection hq with hq; have := h4.size; omega
  refine ⟨⟨hB.set_ 11 v', ?_, hv', ?_⟩, hB⟩
  · rw [List.length_append, List.map_append]
    exact Row.setCell a1 (fun e => by have := hv' g e; omega) v'
  · exact (h4.trans a2 (fun i hi => .inr (h3 i hi))).setCell (p := ⟨g, 11, none⟩) (.inl rfl) v'
set_option maxHeartbeats 8000000 in
set_option maxRecDepth 100000 in
theorem dline5_ {w : World} {g : Nat} {d : RpD} {vl vm vi vp : Value} {l : List UInt8} (h : Blk w g 33 (rpA d vl vm vi vp)) (hp : PoAt w g vp d.ports) (hl : l.length ≤ 100000) (hd : d.ports = []) :
    Calls Tryz.prog 24 #[.pointer (some ⟨g, 0, none⟩), .int .i64 5, .string (bs l)] w (LineD w g vl vm vi (rdK 5 d l)) := by
  obtain rfl := hp.2.2 hd
  have HWD := Lib.hid (r37_words hl wPor none (fun m hm => by cases hm) w)
  have hwd : bs wPor = ⟨#[112, 111, 114, 116, 115]⟩ := rfl
  rw [hwd] at HWD
  have HR := Lib.hid h
  have HP := Lib.hid hp
  have HLL := Lib.hid hl
  obtain ⟨o, hoo⟩ : ∃ o, o = rdK 5 d l := ⟨_, rfl⟩
  rw [← hoo]
  have HOO := Lib.hid hoo
  generalize bs l = sl at *
  clear h hp hl hwd hoo hd
  cases ho : wordsR wPor none l with
  | none =>
    rw [ho] at HWD
    have HON : Hid (o = none) := Lib.hid (by rw [HOO.out]; simp only [rdK, ho])
    clear ho
    go_enter Tryz.func24, Tryz.ntmps24
    go_wp2_with fail
    refine HWD.out.mono ?_
    rintro e w1 ⟨hb, rfl⟩
    have HF : Hid (LineD w g vl vm vi o (.returned (.bool false)) w1) := Lib.hid (by rw [HON.out]; exact ⟨Chg.of_below hb, rfl⟩)
    clear hb
    go_wp2
    go_ret
    exact HF.out
  | some ws =>
    rw [ho] at HWD
    obtain ⟨-, hw2, hwl, hw0⟩ := words_of ho HLL.out
    have HWY := Lib.hid hw2
    have HWR := Lib.hid ho
    obtain ⟨m, hmm⟩ : ∃ m, m = ws.length := ⟨_, rfl⟩
    have hm1 : 1 ≤ m := by rw [hmm]; exact List.length_pos_iff.2 hw0
    have hm9 : m ≤ 100000 := by omega
    have HM := Lib.hid hmm
    have HOI : Hid (o = match portsW ws with | some l => some { d with ports := l } | none => none) := Lib.hid (by rw [HOO.out]; simp only [rdK, HWR.out]; all_goals (cases portsW ws <;> rfl))
    clear ho hw2 hwl hw0 hmm
    go_enter Tryz.func24, Tryz.ntmps24
    go_wp2_with fail
    refine HWD.out.mono ?_
    rintro e w1 ⟨hb, b, c, rfl, hws, hb1, hb2⟩
    rw [← HM.out]
    have HB := Lib.hid hb
    have HWS := Lib.hid hws
    have HBG : Hid (b ≠ g) := Lib.hid (by have := HR.out.lt; omega)
    have HB1 := Lib.hid (HR.out.below hb HR.out.lt)
    have HGL : Hid (g < w1.heap.size) := Lib.hid (by have := HR.out.lt; have := hb.size; omega)
    have q0 := hws 0 (by have := HM.out; omega)
    obtain ⟨y, hy⟩ : ∃ y, y = ws.getD 0 [] := ⟨_, rfl⟩
    rw [← hy] at q0
    unfold strV at q0
    have HYE := Lib.hid hy
    clear hws hb hb1 hb2 hy
    by_cases h45 : ws = [[45]]
    · have hm : m = 1 := by rw [HM.out, h45]; rfl
      subst hm
      have hs1 : ((bs y).toList == [45]) = true := by rw [HYE.out, h45, Lib.toList_data]; rfl
      have HF : Hid (LineD w g vl vm vi o (.returned (.bool true)) w1) := Lib.hid (by
        rw [HOI.out, portsW, if_pos h45]
        exact ⟨Chg.of_below HB.out, rfl, _, HB1.out, World.ownsRow_nil _ _ _ _, fun k hk => by simp [Value.ownBlock] at hk, fun _ => rfl⟩)
      clear h45
      generalize bs y = sy at *
      go_wp2
      go_ret
      exact HF.out
    · have hcase : (((m : Int) == 1) = true ∧ ((bs y).toList == [45]) = false) ∨ ((m : Int) == 1) = false := by
        by_cases h1 : m = 1
        · refine .inl ⟨by rw [h1]; rfl, ?_⟩
          rw [Lib.toList_data, bs_list, beq_eq_false_iff_ne]
          intro e
          refine h45 ?_
          have hl := HM.out
          match ws, hl with
          | [], hl => simp at hl; omega
          | [x], _ => have := HYE.out; rw [e] at this; simp at this; rw [this]
          | _ :: _ :: _, hl => simp at hl; omega
        · exact .inr (by rw [beq_eq_false_iff_ne]; omega)
      have HOP : Hid (o = match numsM 63 ws with | some l => some { d with ports := l } | none => none) := Lib.hid (by rw [HOI.out, portsW, if_neg h45])
      have HP0 : Hid (DInv w1 g d vl vm vi (.slice none 0 0) [] w1) := Lib.hid ⟨HB1.out, World.ownsRow_nil _ _ _ _, fun k hk => by simp [Value.ownBlock] at hk, Chg.refl _ _⟩
      clear h45
      generalize bs y = sy at *
      rcases hcase with ⟨hm1e, hs1⟩ | hm1e
      all_goals
        go_wp2_with fail
        go_loopw [28] (fun c wr => ∃ j : Nat, ∃ l vp, j ≤ m ∧ c = .int .i64 j ∧ numsM 63 (ws.take j) = some l ∧ l.length = j ∧ DInv w1 g d vl vm vi vp l wr) (fun c _ => m - (intOf c).toNat)
        case atStart => exact ⟨0, [], _, Nat.zero_le _, rfl, rfl, rfl, HP0.out⟩
        case round =>
          obtain ⟨j, l, vp, hj, rfl, hk, hnl, hT⟩ := hrel
          have HK := Lib.hid hk
          have HNL := Lib.hid hnl
          have HT := Lib.hid hT
          clear hk hnl hT
          by_cases hlt : (j : Int) < (m : Int)
          · have hjw : j < ws.length := by have := HM.out; omega
            have HTK : Hid (ws.take (j + 1) = ws.take j ++ [ws.getD j []]) := Lib.hid (take_snocG [] hjw)
            have HNO : Hid (numM 63 (ws.getD j []) = none → numsM 63 ws = none) := Lib.hid fun hh => by
              rw [← List.take_append_drop (j + 1) ws]
              refine numsM_none _ _ _ ?_
              rw [HTK.out, numsM_snoc, HK.out, hh]
            have hyl := HWY.out (ws.getD j []) (by rw [List.getD_eq_getElem?_getD, List.getElem?_eq_getElem hjw]; exact List.getElem_mem hjw)
            have q1 : wr.cell? ⟨b, 1 + j, none⟩ = some (.string (bs (ws.getD j []))) := by
              have h1 := HWS.out j hjw
              have hlt := World.block_lt_of_cell? w1 _ h1
              rw [World.cell?_of_block (w := w1) (HT.out.2.2.2.block b hlt HBG.out)]
              exact h1
            have HPN := Lib.hid (r37_number hyl 63 (by omega) wr)
            obtain ⟨sj, hsj⟩ : ∃ sj, sj = bs (ws.getD j []) := ⟨_, rfl⟩
            rw [← hsj] at q1 HPN
            clear hjw hyl hsj
            go_wp2_with fail
            refine HPN.out.mono ?_
            rintro e w5 ⟨hb5, he⟩
            have HT5 := Lib.hid (HT.out.below hb5)
            have HC5 := Lib.hid ((Chg.of_below (S := fun k => k = g) HB.out).trans HT5.out.2.2.2 (fun i hi => .inl hi))
            clear hb5 q1
            cases hk : numM 63 (ws.getD j []) with
            | none =>
              rw [hk] at he
              subst he
              have HON : Hid (o = none) := Lib.hid (by rw [HOP.out, HNO.out hk])
              have HF : Hid (LineD w g vl vm vi o (.returned (.bool false)) w5) := Lib.hid (by rw [HON.out]; exact ⟨HC5.out, rfl⟩)
              clear hk
              go_wp2
              go_ret
              exact HF.out
            | some k =>
              rw [hk] at he
              subst he
              have HKK := Lib.hid hk
              have c11 : w5.cell? ⟨g, 11, none⟩ = some vp := HT5.out.1.cell 11
              have hl5 : g < w5.heap.size := HT5.out.1.lt
              have HPE : Hid (DInv w1 g d vl vm vi vp l (w5.alloc (.cells #[.int .i64 (k : Int)] 3))) := Lib.hid (HT5.out.below ((Below.refl _ w5).alloc (Nat.le_refl _) _))
              clear hk
              go_wp2_with (at_builtin; refine wpList_app rfl _ _ _ rfl 3 (.int .i64 0) 1 8 Tryz.underlying31 infoI rfl (by decide) vp l.length (l.map iv) rfl ?ho _ _ 1 1 [.int .i64 (k : Int)] rfl rfl ?hn ?hs ?c1 ?c2 ?_)
              case ho => exact HPE.out.2.1
              case hn => exact cellN _ _ _ _ (by simp)
              case hs => exact oneC rfl
              case c1 => have := HNL.out; unfold maxLen; omega
              case c2 => have := HNL.out; omega
              intro v3 wB hpF
              obtain ⟨g3, cp3, rfl, -, -, -⟩ := hpF.1.some_ (by omega)
              obtain ⟨hpG, hbF⟩ := HPE.out.more HGL.out (k : Int) hpF
              have kB11 : wB.cell? ⟨g, 11, none⟩ = some vp := hbF.cell 11
              have rB11 : wB.frozen? ⟨g, 11, none⟩ = false := hbF.frozen 11
              have HPG := Lib.hid hpG
              clear hbF hpF hpG
              go_wp2_with fail
              go_roundw
              case rel => exact ⟨j + 1, l ++ [(k : Int)], _, by omega, by go_num, by rw [HTK.out, numsM_snoc, HK.out, HKK.out], by rw [List.length_append, HNL.out]; rfl, HPG.out⟩
              case measure => simp [intOf]; omega
          · obtain rfl : j = m := by omega
            have HF : Hid (LineD w g vl vm vi o (.returned (.bool true)) wr) := Lib.hid (by
              rw [HOP.out]
              have e := HK.out
              rw [HM.out, List.take_length] at e
              rw [e]
              exact ⟨(Chg.of_below (S := fun k => k = g) HB.out).trans HT.out.2.2.2 (fun i hi => .inl hi), rfl, vp, HT.out.1, HT.out.2.1, fun q hq => by have := HT.out.2.2.1 q hq; have := HGL.out; omega, fun hh => by have h1 := HNL.out; rw [show l = [] from hh] at h1; simp at h1; omega⟩)
            go_wp2
            go_ret
            exact HF.out
end Go.Proofs.YtamgbfkpblpfiaaGreatDoor
