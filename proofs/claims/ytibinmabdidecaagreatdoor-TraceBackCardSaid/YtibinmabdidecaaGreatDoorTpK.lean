/-
  The document's parser of truths, walked.
-/
import Derived.Test.YtibinmabdidecaaGreatDoorTpI
import Derived.BigRegion
import Derived.Test.YtibinmabdidecaaGreatDoorNumR
namespace Go.Proofs.YtibinmabdidecaaGreatDoor
open Go.ChangeShapes Go.WideShapes Go.ChangeAt Go.RowKit
set_option linter.unusedVariables false
set_option linter.unusedSimpArgs false
set_option maxHeartbeats 2000000 in
theorem r10_Parse (s : ByteArray) (w : World) (hs : s.size ≤ 100000) : Calls Tryz.prog 49 #[.string s] w (BitsQ w (bits4 s.data.toList)) := by
  have hlen : s.data.toList.length = s.size := by rw [Array.length_toList]; rfl
  unfold bits4
  by_cases h4 : 4096 < s.size
  · rw [if_pos (by omega)]
    have h4' : (4096 : Int) < (s.size : Int) := by omega
    clear hlen
    go_enter Tryz.func49, Tryz.ntmps49
    go_wp2
    go_ret2
    exact ⟨rfl, Below.refl _ _⟩
  · rw [if_neg (by omega)]
    have h4' : ¬ (4096 : Int) < (s.size : Int) := by omega
    have HLN := Lib.hid hlen
    obtain ⟨o, ho⟩ : ∃ o, o = bitsP s.data.toList := ⟨_, rfl⟩
    have HO := Lib.hid ho
    rw [← ho]
    clear hlen ho
    go_enter Tryz.func49, Tryz.ntmps49
    go_wp2
    go_loopw [4, 5] (fun u c wr => ∃ k : Nat, ∃ l, k ≤ s.size ∧ c = .int .i64 k ∧ bitsP (s.data.toList.take k) = some l ∧ l.length = k ∧ OwnG KB w wr u l) (fun _ c _ => s.size - (intOf c).toNat)
    case atStart => exact ⟨0, [], Nat.zero_le _, rfl, rfl, rfl, OwnG.start KB w⟩
    case round =>
      obtain ⟨k, l, hk, rfl, hb, hll, hO⟩ := hrel
      have HB := Lib.hid hb
      have HLL := Lib.hid hll
      have HOW := Lib.hid hO
      have HBW := Lib.hid hO.2.1
      clear hb hll hO
      by_cases hlt : k < s.size
      · have hsn := take_snocB s k hlt
        have hsb := bitsP_snoc (s.data.toList.take k) s[k]
        rw [← hsn, HB.out] at hsb
        have HSB := Lib.hid hsb
        clear hsn hsb
        by_cases h48 : s[k] = 48
        · have e1 : ((s[k].toNat : Int) != 48) = false := by rw [h48]; rfl
          have e2 : ((s[k].toNat : Int) == 49) = false := by rw [h48]; rfl
          have HNX : Hid (bitsP (s.data.toList.take (k + 1)) = some (l ++ [false])) := Lib.hid (by have := HSB.out; simp only at this; rw [if_pos (.inl h48)] at this; rw [this, h48]; rfl)
          clear h48
          go_wp2_with (at_builtin; refine wpList_G KB rfl _ _ rfl l rfl (some ⟨wr.heap.size, 0, none⟩) 1 1 [false] rfl rfl ?hb (HOW.out.below ((Below.refl _ wr).alloc (Nat.le_refl _) (.cells #[.bool false] 4))) (Src.one (heap_alloc_new wr _)) ?_; (case hb => (have := HLL.out; omega)); intro v4 w4 h4; have H4 := Lib.hid h4; clear h4)
          go_roundw
          case rel => exact ⟨k + 1, l ++ [false], by omega, by go_num, HNX.out, by rw [List.length_append, HLL.out]; rfl, H4.out⟩
          case measure => simp [intOf]; omega
        · have e1 : ((s[k].toNat : Int) != 48) = true := by
            rw [bne_iff_ne]
            intro e
            exact h48 (UInt8.toNat.inj (by have : (48 : UInt8).toNat = 48 := rfl; omega))
          by_cases h49 : s[k] = 49
          · have e2 : ((s[k].toNat : Int) != 49) = false := by rw [h49]; rfl
            have e3 : ((s[k].toNat : Int) == 49) = true := by rw [h49]; rfl
            have HNX : Hid (bitsP (s.data.toList.take (k + 1)) = some (l ++ [true])) := Lib.hid (by have := HSB.out; simp only at this; rw [if_pos (.inr h49)] at this; rw [this, h49]; rfl)
            clear h48 h49
            go_wp2_with (at_builtin; refine wpList_G KB rfl _ _ rfl l rfl (some ⟨wr.heap.size, 0, none⟩) 1 1 [true] rfl rfl ?hb (HOW.out.below ((Below.refl _ wr).alloc (Nat.le_refl _) (.cells #[.bool true] 4))) (Src.one (heap_alloc_new wr _)) ?_; (case hb => (have := HLL.out; omega)); intro v4 w4 h4; have H4 := Lib.hid h4; clear h4)
            go_roundw
            case rel => exact ⟨k + 1, l ++ [true], by omega, by go_num, HNX.out, by rw [List.length_append, HLL.out]; rfl, H4.out⟩
            case measure => simp [intOf]; omega
          · have e2 : ((s[k].toNat : Int) != 49) = true := by
              rw [bne_iff_ne]
              intro e
              exact h49 (UInt8.toNat.inj (by have : (49 : UInt8).toNat = 49 := rfl; omega))
            have hon : o = none := by
              have h1 := HSB.out
              simp only at h1
              rw [if_neg (by rintro (h | h); exact h48 h; exact h49 h)] at h1
              rw [HO.out, ← List.take_append_drop (k + 1) s.data.toList]
              exact bitsP_none _ _ h1
            subst hon
            clear h48 h49
            go_wp2
            go_ret2
            exact ⟨rfl, HBW.out⟩
      · obtain rfl : k = s.size := by omega
        have hon : o = some l := by
          have h1 := HB.out
          rw [List.take_of_length_le (by have := HLN.out; omega)] at h1
          rw [HO.out, h1]
        subst hon
        clear hlt
        go_wp2
        go_ret2
        exact ⟨_, rfl, HOW.out⟩
set_option maxHeartbeats 1000000 in
/-- A word's truths, the document's way. -/
theorem r15_parse {y : List UInt8} (hy : y.length ≤ 100000) (w : World) : Calls Tryz.prog 20 #[.string (bs y)] w (BitsQ w (truthsP y)) := by
  have HBP := Lib.hid (r10_Parse (bs y) w (by rw [bs_size]; exact hy))
  rw [bs_list] at HBP
  have HTP := Lib.hid (truthsP_bits y)
  by_cases h1 : y = [45]
  · have e1 : ((bs y).toList == [45]) = true := by rw [h1, Lib.toList_data]; rfl
    have HO : Hid (truthsP y = some []) := Lib.hid (by rw [HTP.out, if_pos h1])
    rw [HO.out]
    clear h1 hy
    generalize bs y = sy at *
    go_enter Tryz.func20, Tryz.ntmps20
    go_wp2
    go_ret2
    exact ⟨_, rfl, OwnG.start KB w⟩
  · have e1 : ((bs y).toList == [45]) = false := by rw [Lib.toList_data, bs_list, beq_eq_false_iff_ne]; exact h1
    by_cases h0 : y = []
    · have HO : Hid (truthsP y = none) := Lib.hid (by rw [HTP.out, if_neg h1, h0]; rfl)
      rw [HO.out]
      subst h0
      clear h1 hy e1
      have e : bs [] = ⟨#[]⟩ := rfl
      rw [e]
      go_enter Tryz.func20, Tryz.ntmps20
      go_wp2
      go_ret2
      exact ⟨rfl, Below.refl _ _⟩
    · have e0 : (bs y).toList.isEmpty = false := by rw [Lib.toList_data, bs_list]; simpa using h0
      have e00 : ¬ (bs y).toList = [] := by rw [Lib.toList_data, bs_list]; exact h0
      have HO : Hid (truthsP y = bits4 y) := Lib.hid (by
        rw [HTP.out, if_neg h1]
        cases hb : bits4 y with
        | none => rfl
        | some l =>
          simp only
          unfold bits4 at hb
          split at hb
          · simp at hb
          · have := bitsP_len hb
            rw [if_neg (fun e => h0 (List.eq_nil_of_length_eq_zero (by rw [← this, e]; rfl)))])
      rw [HO.out]
      obtain ⟨o, hoo⟩ : ∃ o, o = bits4 y := ⟨_, rfl⟩
      rw [← hoo] at HBP ⊢
      clear h1 h0 hy hoo
      generalize bs y = sy at *
      go_enter Tryz.func20, Tryz.ntmps20
      go_wp2_with fail
      refine HBP.out.mono ?_
      cases o with
      | none =>
        rintro e w2 ⟨rfl, hb⟩
        have HB := Lib.hid hb
        clear hb
        go_wp2
        go_ret2
        exact ⟨rfl, HB.out⟩
      | some l =>
        rintro e w2 ⟨u, rfl, hb⟩
        have HB := Lib.hid hb
        clear hb
        go_wp2
        go_ret2
        exact ⟨_, rfl, HB.out⟩
end Go.Proofs.YtibinmabdidecaaGreatDoor
/-
  The document's words of a line, walked.
-/
namespace Go.Proofs.YtibinmabdidecaaGreatDoor
open Go.ChangeShapes Go.WideShapes Go.ChangeAt Go.RowKit
set_option linter.unusedVariables false
set_option linter.unusedSimpArgs false
theorem infoStr : (Tryz.prog.info? 9).map (fun i => (i.zero, i.size, i.bytes)) = some (some (.string ByteArray.empty), 1, 16) := by kernel_rfl
def KS : Knd (List UInt8) := ⟨9, 49, strV, .string ByteArray.empty, 16, fun _ => rfl, Tryz.underlying49, infoStr, rfl, by decide⟩
/-- One element is written. -/
theorem OwnG.set_ {α : Type} {K : Knd α} {w wr : World} {g cap n : Nat} {xs : List α} (h : OwnG K w wr (.slice (some ⟨g, 0, none⟩) n cap) xs) (hn : n = xs.length) (j : Nat) (x : α) : OwnG K w (wr.setCell ⟨g, j, none⟩ (K.enc x)) (.slice (some ⟨g, 0, none⟩) n cap) (xs.set j x) := by
  subst hn
  refine ⟨?_, h.2.1.setCell (by have := h.2.2 g rfl; exact this) _, h.2.2⟩
  have := h.1.set1 j (K.enc x)
  rw [List.length_set, List.map_set]
  exact this
theorem words_snoc : ∀ (a : List UInt8) (c : UInt8), wordsT (a ++ [c]) = if c = 32 then wordsT a ++ [[]] else (wordsT a).set ((wordsT a).length - 1) ((wordsT a).getD ((wordsT a).length - 1) [] ++ [c])
  | [], c => by
    by_cases hc : c = 32
    · subst hc; rfl
    · rw [if_neg hc]
      simp [wordsT, hc]
  | x :: a, c => by
    rw [List.cons_append, wordsT, words_snoc a c]
    have hne := wordsT_ne a
    by_cases hx : x = 32
    · rw [if_pos hx]
      have e : wordsT (x :: a) = [] :: wordsT a := by rw [wordsT, if_pos hx]
      rw [e]
      by_cases hc : c = 32
      · rw [if_pos hc, if_pos hc]; rfl
      · rw [if_neg hc, if_neg hc]
        cases hw : wordsT a with
        | nil => exact absurd hw hne
        | cons y ys => simp
    · rw [if_neg hx]
      cases hw : wordsT a with
      | nil => exact absurd hw hne
      | cons y ys =>
        have e : wordsT (x :: a) = (x :: y) :: ys := by rw [wordsT, if_neg hx, hw]
        rw [e]
        by_cases hc : c = 32
        · rw [if_pos hc, if_pos hc]; rfl
        · rw [if_neg hc, if_neg hc]
          cases ys with
          | nil => simp
          | cons z zs => simp
theorem wordsT_len (l : List UInt8) : (wordsT l).length ≤ l.length + 1 ∧ 1 ≤ (wordsT l).length := by
  rw [words_count]
  have := List.count_le_length (a := (32 : UInt8)) (l := l)
  omega
theorem word_le (l : List UInt8) {x : List UInt8} (h : x ∈ wordsT l) : x.length ≤ l.length := by
  cases hw : wordsT l with
  | nil => exact absurd hw (wordsT_ne l)
  | cons w ws =>
    obtain ⟨e, -, -⟩ := joinT_words hw
    rw [hw] at h
    have := word_len x h
    rw [← e] at this
    exact this
set_option maxHeartbeats 4000000 in
theorem r15_split {l : List UInt8} (hl : l.length ≤ 100000) (w : World) : Calls Tryz.prog 19 #[.string (bs l)] w fun e w' => ∃ u, e = .returned u ∧ OwnG KS w w' u (wordsT l) := by
  obtain ⟨s, hs⟩ : ∃ s, s = bs l := ⟨_, rfl⟩
  have hsl : s.data.toList = l := by rw [hs, bs_list]
  have hsz : s.size = l.length := by rw [hs, bs_size]
  rw [← hs]
  have HS := Lib.hid hsl
  have hs9 : s.size ≤ 100000 := by omega
  have H0 : Hid (OwnG KS w (w.alloc (.cells #[.string ⟨#[]⟩] 9)) (.slice (some ⟨w.heap.size, 0, none⟩) 1 1) [[]]) := Lib.hid ⟨⟨by simp [KS], .inr ⟨w.heap.size, 1, #[.string ⟨#[]⟩], rfl, Nat.zero_le _, heap_alloc_new w _, Nat.le_refl _, by simp [maxLen], by simp, by simp [KS, strV, bs]⟩⟩, (Below.refl _ w).alloc (Nat.le_refl _) _, fun k hk => by simp [Value.ownBlock] at hk; omega⟩
  clear hs hsl hsz hl
  go_enter Tryz.func19, Tryz.ntmps19
  go_wp2
  go_loopw [3, 4] (fun u c wr => ∃ k : Nat, k ≤ s.size ∧ c = .int .i64 k ∧ OwnG KS w wr u (wordsT (s.data.toList.take k))) (fun _ c _ => s.size - (intOf c).toNat)
  case atStart => exact ⟨0, Nat.zero_le _, rfl, H0.out⟩
  case round =>
    obtain ⟨k, hk, rfl, hO⟩ := hrel
    have HOW := Lib.hid hO
    by_cases hlt : k < s.size
    · have hsn := take_snocB s k hlt
      have hws := words_snoc (s.data.toList.take k) s[k]
      rw [← hsn] at hws
      obtain ⟨hwl1, hwl2⟩ := wordsT_len (s.data.toList.take k)
      have htl : (s.data.toList.take k).length ≤ k := List.length_take_le _ _
      by_cases h32 : s[k] = 32
      · rw [if_pos h32] at hws
        have HWS := Lib.hid hws
        have HLL : Hid ((wordsT (s.data.toList.take k)).length ≤ 100001) := Lib.hid (by omega)
        have e1 : ((s[k].toNat : Int) == 32) = true := by rw [h32]; rfl
        clear h32 hws hsn hwl1 hwl2 htl hO
        generalize wordsT (s.data.toList.take k) = ps at *
        go_wp2_with (at_builtin; refine wpList_G KS rfl _ _ rfl ps rfl (some ⟨wr.heap.size, 0, none⟩) 1 1 [[]] rfl rfl ?hb (HOW.out.below ((Below.refl _ wr).alloc (Nat.le_refl _) (.cells #[.string ⟨#[]⟩] 9))) (Src.one (heap_alloc_new wr _)) ?_; (case hb => (have := HLL.out; omega)); intro v4 w4 h4; have H4 := Lib.hid h4; clear h4)
        go_roundw
        case rel => exact ⟨k + 1, by omega, by go_num, by rw [HWS.out]; exact H4.out⟩
        case measure => simp [intOf]; omega
      · rw [if_neg h32] at hws
        have HWS := Lib.hid hws
        have e1 : ((s[k].toNat : Int) == 32) = false := by
          rw [beq_eq_false_iff_ne]
          intro e
          exact h32 (UInt8.toNat.inj (by have : (32 : UInt8).toNat = 32 := rfl; omega))
        obtain ⟨q, hq⟩ : ∃ q, (wordsT (s.data.toList.take k)).length = q + 1 := ⟨(wordsT (s.data.toList.take k)).length - 1, by omega⟩
        have hq9 : q ≤ 100000 := by omega
        obtain ⟨g, cap, hu, hcell, hg1, hg2⟩ := hO.cell [] (j := q) (by omega)
        rw [hq] at hu
        subst hu
        rw [hq, Nat.add_sub_cancel] at HWS
        obtain ⟨x, hx⟩ : ∃ x, x = (wordsT (s.data.toList.take k)).getD q [] := ⟨_, rfl⟩
        have hxl : x.length ≤ 100000 := by
          have := word_le (s.data.toList.take k) (x := x) (by rw [hx, List.getD_eq_getElem?_getD, List.getElem?_eq_getElem (by omega)]; exact List.getElem_mem (by omega))
          omega
        rw [← hx] at hcell HWS
        have hfz : wr.frozen? ⟨g, q, none⟩ = false := by
          rcases hO.1.form with ⟨h, -⟩ | ⟨g', cap', h', -, -, -, hc⟩
          · cases h
          · injection h' with e1 e2 e3
            injection e1 with e1
            injection e1 with e1
            subst e1
            exact (hc q (by rw [List.length_map]; omega)).2
        have hcc : wr.cell? ⟨g, q, none⟩ = some (.string (bs x)) := hcell
        obtain ⟨y, hy⟩ : ∃ y, y = s.extract k (k + 1) := ⟨_, rfl⟩
        have hyl : y = bs [s[k]] := by
          rw [hy]
          apply ByteArray.ext
          apply Array.ext'
          rw [Lib.extract_data]
          have h1 : s.data.toList.drop k = s[k] :: s.data.toList.drop (k + 1) := List.drop_eq_getElem_cons (by simpa using hlt)
          rw [bs_list]
          first
            | (rw [h1, show k + 1 - k = 1 by omega]; rfl)
            | (rw [List.drop_take, h1, show k + 1 - k = 1 by omega]; rfl)
        have hcat : ∀ W, (Op.stringOp .add (bs x) y).run Tryz.prog W = .ok (.string (bs (x ++ [s[k]]))) W := fun W => run_cat W _ _ _ (by rw [hyl, bs_size, bs_size]; simp; omega) (by rw [hyl, bs_app])
        have hset := (HOW.out.set_ hq.symm q (x ++ [s[k]])).below (below_drewN (Below.refl _ _) 1)
        rw [← HWS.out] at hset
        have HX := Lib.hid hset
        have hw1 : IntKind.i64.wrap ((q : Int) + 1 - 1) = (q : Int) := by simp (disch := omega) only [IntWalk.i64_in]; omega
        have hw2 : IntKind.i64.wrap (q : Int) = (q : Int) := by simp (disch := omega) only [IntWalk.i64_in]
        have hw3 : IntKind.i64.wrap ((k : Int) + 1) = (k : Int) + 1 := by simp (disch := omega) only [IntWalk.i64_in]
        have ht1 : ((k : Int) + 1).toNat = k + 1 := by omega
        have hb1 : (k : Int) + 1 ≤ (s.size : Int) := by omega
        have hb2 : (k : Int) < (s.size : Int) := by omega
        have hb3 : (q : Int) < (q : Int) + 1 := by omega
        subst hy
        clear hset hws hwl1 hwl2 htl hq hx hxl hyl hO h32 hsn hcell
        go_wp2
        go_region
        go_wp2
        go_roundw
        case rel => exact ⟨k + 1, by omega, by go_num, HX.out⟩
        case measure => simp [intOf]; omega
    · obtain rfl : k = s.size := by omega
      have HF : Hid (wordsT (s.data.toList.take s.size) = wordsT l) := Lib.hid (by rw [List.take_of_length_le (by rw [Array.length_toList]; exact Nat.le_refl _), HS.out])
      clear hO hlt
      go_wp2
      go_ret
      exact ⟨_, rfl, by rw [← HF.out]; exact HOW.out⟩
end Go.Proofs.YtibinmabdidecaaGreatDoor
/-
  The document's lines of a text, walked.
-/
namespace Go.Proofs.YtibinmabdidecaaGreatDoor
open Go.ChangeShapes Go.WideShapes Go.ChangeAt Go.RowKit
set_option linter.unusedVariables false
set_option linter.unusedSimpArgs false
/-- The lines that end, and what is behind them. -/
def linesF : List UInt8 → List (List UInt8) × List UInt8
  | [] => ([], [])
  | c :: s => if c = 10 then ([] :: (linesF s).1, (linesF s).2) else match (linesF s).1 with
    | x :: ls => ((c :: x) :: ls, (linesF s).2)
    | [] => ([], c :: (linesF s).2)
theorem linesF_snoc : ∀ (a : List UInt8) (c : UInt8), linesF (a ++ [c]) = if c = 10 then ((linesF a).1 ++ [(linesF a).2], []) else ((linesF a).1, (linesF a).2 ++ [c])
  | [], c => by
    by_cases hc : c = 10
    · subst hc; rfl
    · rw [if_neg hc]
      simp [linesF, hc]
  | x :: a, c => by
    rw [List.cons_append, linesF, linesF_snoc a c]
    by_cases hx : x = 10
    · rw [if_pos hx]
      have e : linesF (x :: a) = ([] :: (linesF a).1, (linesF a).2) := by rw [linesF, if_pos hx]
      rw [e]
      by_cases hc : c = 10
      · rw [if_pos hc, if_pos hc]; rfl
      · rw [if_neg hc, if_neg hc]
    · rw [if_neg hx]
      cases hl : (linesF a).1 with
      | nil =>
        have e : linesF (x :: a) = ([], x :: (linesF a).2) := by rw [linesF, if_neg hx, hl]
        rw [e]
        by_cases hc : c = 10
        · rw [if_pos hc, if_pos hc]; rfl
        · rw [if_neg hc, if_neg hc]; rfl
      | cons y ys =>
        have e : linesF (x :: a) = ((x :: y) :: ys, (linesF a).2) := by rw [linesF, if_neg hx, hl]
        rw [e]
        by_cases hc : c = 10
        · rw [if_pos hc, if_pos hc]; rfl
        · rw [if_neg hc, if_neg hc]
theorem cut_lines : ∀ (s : List UInt8), match cutT s with | some (a, b) => linesF s = (a :: (linesF b).1, (linesF b).2) | none => linesF s = ([], s)
  | [] => rfl
  | c :: s => by
    have ih := cut_lines s
    rw [cutT]
    by_cases hc : c = 10
    · rw [if_pos hc]
      simp only
      rw [linesF, if_pos hc]
    · rw [if_neg hc]
      cases h : cutT s with
      | none =>
        rw [h] at ih
        simp only at ih ⊢
        rw [linesF, if_neg hc, ih]
      | some q =>
        obtain ⟨a, b⟩ := q
        rw [h] at ih
        simp only at ih ⊢
        rw [linesF, if_neg hc, ih]
theorem linesF_size : ∀ s : List UInt8, (linesF s).1.length ≤ s.length ∧ (linesF s).2.length ≤ s.length
  | [] => ⟨Nat.le_refl _, Nat.le_refl _⟩
  | c :: s => by
    obtain ⟨h1, h2⟩ := linesF_size s
    rw [linesF]
    by_cases hc : c = 10
    · rw [if_pos hc]; simp; omega
    · rw [if_neg hc]
      cases hl : (linesF s).1 with
      | nil => simp; omega
      | cons y ys => rw [hl] at h1; simp at h1 ⊢; omega
/-- All lines, and whether the last one has no end. -/
def linesT (s : List UInt8) : List (List UInt8) × Bool := if (linesF s).2 = [] then ((linesF s).1, false) else ((linesF s).1 ++ [(linesF s).2], true)
theorem bs_extract (s : ByteArray) (a b : Nat) : s.extract a b = bs ((s.data.toList.take b).drop a) := by
  apply ByteArray.ext
  apply Array.ext'
  rw [Lib.extract_data, bs_list, List.drop_take]
def LinesI (s : ByteArray) (i f : Nat) (ls : List (List UInt8)) : Prop := f ≤ i ∧ linesF (s.data.toList.take i) = (ls, (s.data.toList.take i).drop f)
theorem LinesI.end_ {s : ByteArray} {i f : Nat} {ls : List (List UInt8)} (h : LinesI s i f ls) (hi : i < s.size) (hc : s[i] = 10) : LinesI s (i + 1) (i + 1) (ls ++ [(s.data.toList.take i).drop f]) := by
  refine ⟨Nat.le_refl _, ?_⟩
  have hl : (s.data.toList.take (i + 1)).length = i + 1 := by
    rw [List.length_take, Array.length_toList]
    have : s.data.size = s.size := rfl
    omega
  rw [take_snocB s i hi] at hl ⊢
  have hd : (s.data.toList.take i ++ [s[i]]).drop (i + 1) = [] := List.drop_eq_nil_of_le (by omega)
  rw [linesF_snoc, if_pos hc, h.2, hd]
theorem LinesI.more {s : ByteArray} {i f : Nat} {ls : List (List UInt8)} (h : LinesI s i f ls) (hi : i < s.size) (hc : ¬ s[i] = 10) : LinesI s (i + 1) f ls := by
  obtain ⟨h1, h2⟩ := h
  refine ⟨by omega, ?_⟩
  have hl : (s.data.toList.take i).length = i := by
    rw [List.length_take, Array.length_toList]
    have : s.data.size = s.size := rfl
    omega
  rw [take_snocB s i hi, linesF_snoc, if_neg hc, h2, List.drop_append_of_le_length (by omega)]
def LnsQ (w : World) (o : List (List UInt8) × Bool) (e : Ending) (w' : World) : Prop := ∃ u, e = .returned (.tuple #[u, .bool o.2]) ∧ OwnG KS w w' u o.1
set_option maxHeartbeats 4000000 in
theorem r15_lines {l : List UInt8} (hl : l.length ≤ 100000) (w : World) : Calls Tryz.prog 16 #[.string (bs l)] w (LnsQ w (linesT l)) := by
  obtain ⟨s, hs⟩ : ∃ s, s = bs l := ⟨_, rfl⟩
  have hsl : s.data.toList = l := by rw [hs, bs_list]
  have hsz : s.size = l.length := by rw [hs, bs_size]
  rw [← hs]
  have HS := Lib.hid hsl
  have HSZ := Lib.hid hsz
  have hs9 : s.size ≤ 100000 := by omega
  clear hs hsl hsz hl
  go_enter Tryz.func16, Tryz.ntmps16
  go_wp2
  go_loopw [4, 5, 6] (fun u f c wr => ∃ i a : Nat, ∃ ls, i ≤ s.size ∧ c = .int .i64 i ∧ f = .int .i64 a ∧ LinesI s i a ls ∧ OwnG KS w wr u ls) (fun _ _ c _ => s.size - (intOf c).toNat)
  case atStart => exact ⟨0, 0, [], Nat.zero_le _, rfl, rfl, ⟨Nat.le_refl _, rfl⟩, OwnG.start KS w⟩
  case round =>
    obtain ⟨i, a, ls, hi, rfl, rfl, hI, hO⟩ := hrel
    have HI := Lib.hid hI
    have HOW := Lib.hid hO
    have hai := hI.1
    have hls : ls.length ≤ 100000 := by
      have h1 := (linesF_size (s.data.toList.take i)).1
      rw [hI.2] at h1
      have := List.length_take_le i s.data.toList
      simp only at h1
      omega
    clear hI hO
    by_cases hlt : i < s.size
    · by_cases h10 : s[i] = 10
      · have HNX := Lib.hid (HI.out.end_ hlt h10)
        have e1 : ((s[i].toNat : Int) == 10) = true := by rw [h10]; rfl
        have hex := bs_extract s a i
        obtain ⟨x, hx⟩ : ∃ x, x = (s.data.toList.take i).drop a := ⟨_, rfl⟩
        rw [← hx] at hex HNX
        have HLS := Lib.hid hls
        have HX : Hid (strV x = .string (s.extract a i)) := Lib.hid (by rw [hex]; rfl)
        clear h10 hx hex hls
        go_wp2_with (at_builtin; refine wpList_G KS rfl _ _ rfl ls rfl (some ⟨wr.heap.size, 0, none⟩) 1 1 [x] rfl rfl ?hb (HOW.out.below ((Below.refl _ wr).alloc (Nat.le_refl _) (.cells #[.string (s.extract a i)] 9))) ?hsrc ?_; (case hb => (have := HLS.out; omega)); (case hsrc => (have h9 := Src.one (w := wr.alloc (.cells #[.string (s.extract a i)] 9)) (heap_alloc_new wr _); rw [← HX.out] at h9; rw [← HX.out]; exact h9)); intro v4 w4 h4; have H4 := Lib.hid h4; clear h4)
        go_roundw
        case rel => exact ⟨i + 1, i + 1, _, by omega, by go_num, by go_num, HNX.out, H4.out⟩
        case measure => simp [intOf]; omega
      · have HNX := Lib.hid (HI.out.more hlt h10)
        have e1 : ((s[i].toNat : Int) == 10) = false := by
          rw [beq_eq_false_iff_ne]
          intro e
          exact h10 (UInt8.toNat.inj (by have : (10 : UInt8).toNat = 10 := rfl; omega))
        clear h10 hls
        go_wp2
        go_roundw
        case rel => exact ⟨i + 1, a, _, by omega, by go_num, rfl, HNX.out, HOW.out⟩
        case measure => simp [intOf]; omega
    · obtain rfl : i = s.size := by omega
      have hlen : s.data.toList.length = s.size := by rw [Array.length_toList]; rfl
      have hfull : s.data.toList.take s.size = l := by rw [List.take_of_length_le (by omega), HS.out]
      have hF : linesF l = (ls, l.drop a) := by
        have := HI.out.2
        rw [hfull] at this
        exact this
      by_cases ha : a < s.size
      · have hex := bs_extract s a s.size
        rw [hfull] at hex
        obtain ⟨x, hx⟩ : ∃ x, x = l.drop a := ⟨_, rfl⟩
        have hne : x ≠ [] := fun e => by
          have h1 : x.length = 0 := by rw [e]; rfl
          have h2 := HSZ.out
          rw [hx, List.length_drop] at h1
          omega
        rw [← hx] at hex hF
        have HT : Hid (linesT l = (ls ++ [x], true)) := Lib.hid (by unfold linesT; rw [hF]; simp only; rw [if_neg hne])
        have HLS := Lib.hid hls
        have HX : Hid (strV x = .string (s.extract a s.size)) := Lib.hid (by rw [hex]; rfl)
        clear hx hex hls hF hne hfull hlen hlt
        go_wp2_with (at_builtin; refine wpList_G KS rfl _ _ rfl ls rfl (some ⟨wr.heap.size, 0, none⟩) 1 1 [x] rfl rfl ?hb (HOW.out.below ((Below.refl _ wr).alloc (Nat.le_refl _) (.cells #[.string (s.extract a s.size)] 9))) ?hsrc ?_; (case hb => (have := HLS.out; omega)); (case hsrc => (have h9 := Src.one (w := wr.alloc (.cells #[.string (s.extract a s.size)] 9)) (heap_alloc_new wr _); rw [← HX.out] at h9; rw [← HX.out]; exact h9)); intro v4 w4 h4; have H4 := Lib.hid h4; clear h4)
        have HF : Hid (LnsQ w (linesT l) (.returned (.tuple #[v4, .bool true])) w4) := Lib.hid (by rw [HT.out]; exact ⟨_, rfl, H4.out⟩)
        go_ret2
        exact HF.out
      · have he : l.drop a = [] := List.drop_eq_nil_of_le (by have := HSZ.out; omega)
        have HT : Hid (linesT l = (ls, false)) := Lib.hid (by unfold linesT; rw [hF, he]; rfl)
        clear he hF hfull hlen hls hlt
        have HF : Hid (∀ u, OwnG KS w wr u ls → LnsQ w (linesT l) (.returned (.tuple #[u, .bool false])) wr) := Lib.hid fun u hu => by rw [HT.out]; exact ⟨_, rfl, hu⟩
        have HFF := Lib.hid (HF.out _ HOW.out)
        go_wp2
        go_ret2
        exact HFF.out
end Go.Proofs.YtibinmabdidecaaGreatDoor
/-
  The document's line at a place, and what a line begins with, walked.
-/
namespace Go.Proofs.YtibinmabdidecaaGreatDoor
open Go.ChangeShapes Go.WideShapes Go.ChangeAt Go.RowKit
set_option linter.unusedVariables false
set_option linter.unusedSimpArgs false
def lineAt (ls : List (List UInt8)) (b : Bool) (i : Nat) : Option (List UInt8) := if ls.length ≤ i ∨ (b = true ∧ i + 1 = ls.length) then none else some (ls.getD i [])
theorem r15_line {w W : World} {v : Value} {ls : List (List UInt8)} (h : OwnG KS w W v ls) (b : Bool) (i : Nat) (hi : i ≤ 100000) (hl : ls.length ≤ 100001) :
    Calls Tryz.prog 17 #[v, .bool b, .int .i64 (i : Int)] W fun e w' => e = .returned (.tuple #[.string (bs ((lineAt ls b i).getD [])), .bool (lineAt ls b i).isSome]) ∧ W = w' := by
  obtain ⟨A, cap, rfl, h1, h2⟩ := h.form
  have e0 : bs [] = ⟨#[]⟩ := rfl
  by_cases hlt : i < ls.length
  · obtain ⟨g, cap', e, hc, -, -⟩ := h.cell [] hlt
    injection e with e1 e2 e3
    subst e1
    have hc' : W.cell? ⟨g, i, none⟩ = some (.string (bs (ls.getD i []))) := hc
    by_cases hb : b = true ∧ i + 1 = ls.length
    · have HL : Hid (lineAt ls b i = none) := Lib.hid (by unfold lineAt; rw [if_pos (.inr hb)])
      rw [HL.out]
      obtain ⟨rfl, hn⟩ := hb
      simp only [Option.getD_none, Option.isSome_none, e0]
      have hn1 : ((i : Int) == (ls.length : Int) - 1) = true := by rw [beq_iff_eq]; omega
      clear h hc hc' e2 e3 hn e0
      generalize ls.length = n at *
      go_enter Tryz.func17, Tryz.ntmps17
      go_wp2
      go_ret2
      exact ⟨rfl, rfl⟩
    · have HL : Hid (lineAt ls b i = some (ls.getD i [])) := Lib.hid (by unfold lineAt; rw [if_neg (by rintro (h | h); omega; exact hb h)])
      rw [HL.out]
      simp only [Option.getD_some, Option.isSome_some]
      generalize bs (ls.getD i []) = x at *
      have hn1 : b = true → ((i : Int) == (ls.length : Int) - 1) = false := fun hb1 => by
        rw [beq_eq_false_iff_ne]
        intro e
        exact hb ⟨hb1, by omega⟩
      clear h hc e2 e3 hb e0
      generalize ls.length = n at *
      cases b with
      | false =>
        clear hn1
        go_enter Tryz.func17, Tryz.ntmps17
        go_wp2
        go_ret2
        exact ⟨rfl, rfl⟩
      | true =>
        have hn2 := hn1 rfl
        clear hn1
        go_enter Tryz.func17, Tryz.ntmps17
        go_wp2
        go_ret2
        exact ⟨rfl, rfl⟩
  · have HL : Hid (lineAt ls b i = none) := Lib.hid (by unfold lineAt; rw [if_pos (.inl (by omega))])
    rw [HL.out]
    simp only [Option.getD_none, Option.isSome_none, e0]
    clear h e0
    generalize ls.length = n at *
    have hlt' : ¬ (i : Int) < (n : Int) := by omega
    go_enter Tryz.func17, Tryz.ntmps17
    go_wp2
    go_ret2
    exact ⟨rfl, rfl⟩
theorem prefix_take {p l : List UInt8} : p.isPrefixOf l = decide (p.length ≤ l.length ∧ l.take p.length = p) := by
  rw [Bool.eq_iff_iff, List.isPrefixOf_iff_prefix, decide_eq_true_eq, List.prefix_iff_eq_take]
  constructor
  · intro h
    refine ⟨?_, h.symm⟩
    have := congrArg List.length h
    rw [List.length_take] at this
    omega
  · exact fun h => h.2.symm
theorem r15_begins (s p : List UInt8) (w : World) (hs : s.length ≤ 100000) (hp : p.length ≤ 1000) : Calls Tryz.prog 21 #[.string (bs s), .string (bs p)] w fun e w' => e = .returned (.bool (beginsT p s)) ∧ w = w' := by
  have hz1 := bs_size s
  have hz2 := bs_size p
  unfold beginsT
  rw [prefix_take]
  by_cases h : p.length ≤ s.length
  · have hex : (bs s).extract 0 (bs p).size = bs (s.take p.length) := by rw [bs_extract, bs_list, hz2, List.drop_zero]
    have hr : decide (p.length ≤ s.length ∧ s.take p.length = p) = ((bs (s.take p.length)).toList == (bs p).toList) := by
      rw [Lib.toList_data, Lib.toList_data, bs_list, bs_list, Bool.eq_iff_iff]
      simp [h]
    rw [hr, ← hex]
    have hle : ((bs p).size : Int) ≤ ((bs s).size : Int) := by rw [hz1, hz2]; omega
    have hs1 : (bs s).size ≤ 100000 := by omega
    have hs2 : (bs p).size ≤ 1000 := by omega
    clear hex hr hz1 hz2 h
    generalize bs s = a at *
    generalize bs p = b at *
    go_enter Tryz.func21, Tryz.ntmps21
    go_wp2
    go_ret
    exact ⟨rfl, rfl⟩
  · have hr : decide (p.length ≤ s.length ∧ s.take p.length = p) = false := decide_eq_false (fun hh => h hh.1)
    rw [hr]
    have hle : ¬ ((bs p).size : Int) ≤ ((bs s).size : Int) := by rw [hz1, hz2]; omega
    have hs1 : (bs s).size ≤ 100000 := by omega
    have hs2 : (bs p).size ≤ 1000 := by omega
    clear hr hz1 hz2 h
    generalize bs s = a at *
    generalize bs p = b at *
    go_enter Tryz.func21, Tryz.ntmps21
    go_wp2
    go_ret
    exact ⟨rfl, rfl⟩
end Go.Proofs.YtibinmabdidecaaGreatDoor
/-
  The document's numbers of a line, walked.
-/
namespace Go.Proofs.YtibinmabdidecaaGreatDoor
open Go.ChangeShapes Go.WideShapes Go.ChangeAt Go.RowKit
set_option linter.unusedVariables false
set_option linter.unusedSimpArgs false
def NmQ (w : World) (o : Option (List Nat)) (e : Ending) (w' : World) : Prop := match o with
  | some ns => ∃ u, e = .returned (.tuple #[u, .bool true]) ∧ OwnG KU w w' u ns
  | none => e = .returned (.tuple #[.slice none 0 0, .bool false]) ∧ Below w.heap.size w w'
set_option maxHeartbeats 4000000 in
theorem r15_numbers {w : World} (line word : List UInt8) (most : List Nat) {bm cap : Nat} (hl : line.length ≤ 100000) (hml : 1 ≤ most.length ∧ most.length ≤ 100)
    (hmc : ∀ j, j < most.length → w.cell? ⟨bm, j, none⟩ = some (.int .u64 ((most.getD j 0 : Nat) : Int))) :
    Calls Tryz.prog 18 #[.string (bs line), .string (bs word), .slice (some ⟨bm, 0, none⟩) most.length cap] w (NmQ w (numsT word most line)) := by
  have HSP := Lib.hid (r15_split hl w)
  have HMC := Lib.hid hmc
  obtain ⟨km, hkm⟩ : ∃ k, k = most.length := ⟨_, rfl⟩
  rw [← hkm] at hml ⊢
  have HKM := Lib.hid hkm
  obtain ⟨hm1, hm2⟩ := hml
  have HWB : Hid (∀ y ∈ wordsT line, y.length ≤ 100000) := Lib.hid fun y hy => by have := word_le line hy; omega
  cases hw : wordsT line with
  | nil => exact absurd hw (wordsT_ne line)
  | cons x ws =>
    rw [hw] at HSP HWB
    have hlen9 : ws.length ≤ 100000 := by have := (wordsT_len line).1; rw [hw] at this; simp at this; omega
    obtain ⟨o, ho⟩ : ∃ o, o = numsT word most line := ⟨_, rfl⟩
    have HO : Hid (o = if x = word ∧ ws.length = km then numsP ws most else none) := Lib.hid (by rw [ho]; unfold numsT; rw [hw, hkm])
    rw [← ho]
    clear hkm ho hw hmc hl
    by_cases hn : ws.length = km
    · by_cases hx : x = word
      · have HON : Hid (o = numsP ws most) := Lib.hid (by rw [HO.out, if_pos ⟨hx, hn⟩])
        have hlen : ((ws.length : Int) + 1 != (km : Int) + 1) = false := by rw [hn]; simp
        have hxs : (!(bs x).toList == (bs word).toList) = false := by rw [hx]; simp
        have HWS := Lib.hid hn
        clear hx
        generalize bs line = sl at *
        generalize bs word = sw at *
        go_enter Tryz.func18, Tryz.ntmps18
        go_wp2_with fail
        refine HSP.out.mono ?_
        rintro e w1 ⟨u, rfl, hO⟩
        have HW1 := Lib.hid hO
        have HB1 := Lib.hid hO.2.1
        obtain ⟨g, cap', rfl, hc0, -, -⟩ := hO.cell [] (j := 0) (by simp)
        have hc : w1.cell? ⟨g, 0, none⟩ = some (.string (bs x)) := hc0
        clear hO hc0
        simp only [List.length_cons] at HW1 ⊢
        rw [hn] at hlen HW1 ⊢
        clear hn
        go_wp2
        clear hc hlen hxs
        go_loopw [9, 10, 11, 12] (fun u c _ _ wr => ∃ j : Nat, ∃ ns, j ≤ km ∧ c = .int .i64 j ∧ NumsI ws most j ns ∧ ns.length = j ∧ OwnG KU w1 wr u ns) (fun _ c _ _ _ => km - (intOf c).toNat)
        case atStart => exact ⟨0, [], Nat.zero_le _, rfl, by unfold NumsI; rfl, rfl, OwnG.start KU w1⟩
        case round =>
          obtain ⟨j, ns, hj, rfl, hI, hnl, hO⟩ := hrel
          have HI := Lib.hid hI
          have HOW := Lib.hid hO
          have HNL := Lib.hid hnl
          have HBW := Lib.hid hO.2.1
          clear hI hO hnl
          by_cases hlt : (j : Int) < (km : Int)
          · have hjw : j < ws.length := by have := HWS.out; omega
            obtain ⟨g', cp', eg, hcj, -, -⟩ := HW1.out.cell [] (j := j + 1) (by simp; omega)
            injection eg with eg1 eg2 eg3
            injection eg1 with eg1
            clear eg2 eg3
            injection eg1 with eg1
            subst eg1
            rw [List.getD_cons_succ] at hcj
            have q0 := cell_below hcj HBW.out
            have q1 : wr.cell? ⟨g, j + 1, none⟩ = some (.string (bs (ws.getD j []))) := q0
            have HY := Lib.hid (HWB.out (ws.getD j []) (List.mem_cons_of_mem _ (by rw [List.getD_eq_getElem?_getD, List.getElem?_eq_getElem hjw]; exact List.getElem_mem hjw)))
            obtain ⟨y, hy⟩ : ∃ y, y = ws.getD j [] := ⟨_, rfl⟩
            rw [← hy] at q1 HY
            have HNM := Lib.hid (r15_number (bs y) wr (by rw [bs_size]; exact HY.out))
            rw [bs_list] at HNM
            have HYE := Lib.hid hy
            have HMJ : Hid (∀ W, Below w1.heap.size w1 W → W.cell? ⟨bm, j, none⟩ = some (.int .u64 ((most.getD j 0 : Nat) : Int))) := Lib.hid fun W hW => cell_below (cell_below (HMC.out j (by have := HKM.out; omega)) HB1.out) hW
            obtain ⟨mj, hmj⟩ : ∃ m, m = most.getD j 0 := ⟨_, rfl⟩
            rw [← hmj] at HMJ
            have HME := Lib.hid hmj
            have HBAD : Hid ((∀ x, numU y = some x → ¬ x ≤ mj) → o = none) := Lib.hid fun hx => by
              have := HI.out.bad (by rw [HWS.out, HKM.out]) hjw (by rw [← HYE.out, ← HME.out]; exact hx)
              rw [HON.out, this]
            generalize bs y = sy at *
            have hi1 : (j : Int) + 1 < (km : Int) + 1 := by omega
            have ht1 : ((j : Int) + 1).toNat = j + 1 := by omega
            clear hy hmj hjw q0 hcj
            cases hu : numU y with
            | none =>
              rw [hu] at HNM
              have hon := HBAD.out (fun x hx => by rw [hu] at hx; simp at hx)
              subst hon
              clear hu
              go_wp2_with fail
              refine HNM.out.mono ?_
              rintro e w2 ⟨rfl, hb⟩
              have HB2 := Lib.hid (HB1.out.trans ((HBW.out.trans (hb.mono HBW.out.size)).mono HB1.out.size))
              clear hb q1
              unfold ansU
              go_wp2
              go_ret2
              exact ⟨rfl, HB2.out⟩
            | some x =>
              rw [hu] at HNM
              by_cases hx : x ≤ mj
              · have HNX2 := Lib.hid (HI.out.next (by rw [HWS.out, HKM.out]) (by have := HWS.out; omega) (by rw [← HYE.out]; exact hu) (by rw [← HME.out]; exact hx))
                have hxm : decide (mj < x) = false := decide_eq_false (by omega)
                clear hu hx
                go_wp2_with fail
                refine HNM.out.mono ?_
                rintro e w2 ⟨rfl, hb⟩
                have HB2 := Lib.hid (HBW.out.trans (hb.mono HBW.out.size))
                have HO2 := Lib.hid (HOW.out.below hb)
                have qm := HMJ.out w2 HB2.out
                clear hb q1
                unfold ansU
                go_wp2_with (at_builtin; refine wpList_G KU rfl _ _ rfl ns rfl (some ⟨w2.heap.size, 0, none⟩) 1 1 [x] rfl rfl ?hb (HO2.out.below ((Below.refl _ w2).alloc (Nat.le_refl _) (.cells #[.int .u64 (x : Int)] 57))) (Src.one (heap_alloc_new w2 _)) ?_; (case hb => (have := HNL.out; omega)); intro v4 w4 h4; have H4 := Lib.hid h4; clear h4)
                go_roundw
                case rel => exact ⟨j + 1, ns ++ [x], by omega, by go_num, HNX2.out, by rw [List.length_append, HNL.out]; rfl, H4.out⟩
                case measure => simp [intOf]; omega
              · have hon := HBAD.out (fun y hy => by rw [hu] at hy; injection hy with hy; omega)
                subst hon
                have hxm : decide (mj < x) = true := decide_eq_true (by omega)
                clear hu hx
                go_wp2_with fail
                refine HNM.out.mono ?_
                rintro e w2 ⟨rfl, hb⟩
                have HB2 := Lib.hid (HBW.out.trans (hb.mono HBW.out.size))
                have qm := HMJ.out w2 HB2.out
                have HB3 := Lib.hid (HB1.out.trans (HB2.out.mono HB1.out.size))
                clear hb q1
                unfold ansU
                go_wp2
                go_ret2
                exact ⟨rfl, HB3.out⟩
          · obtain rfl : j = km := by omega
            have HOS : Hid (o = some ns) := Lib.hid (by
              have hI := HI.out
              unfold NumsI at hI
              rw [List.take_of_length_le (by have := HWS.out; omega), List.take_of_length_le (by have := HKM.out; omega)] at hI
              rw [HON.out, hI])
            have HF : Hid (∀ u, OwnG KU w1 wr u ns → NmQ w o (.returned (.tuple #[u, .bool true])) wr) := Lib.hid fun u hu => by
              rw [HOS.out]
              exact ⟨u, rfl, hu.from_ HB1.out⟩
            have HFF := Lib.hid (HF.out _ HOW.out)
            go_wp2
            go_ret2
            exact HFF.out
      · have HON : Hid (o = none) := Lib.hid (by rw [HO.out, if_neg (fun h => hx h.1)])
        have hlen : ((ws.length : Int) + 1 != (km : Int) + 1) = false := by rw [hn]; simp
        have hxs : (!(bs x).toList == (bs word).toList) = true := by rw [Lib.toList_data, Lib.toList_data, bs_list, bs_list]; simpa using hx
        rw [HON.out]
        clear hx
        generalize bs line = sl at *
        generalize bs word = sw at *
        go_enter Tryz.func18, Tryz.ntmps18
        go_wp2_with fail
        refine HSP.out.mono ?_
        rintro e w1 ⟨u, rfl, hO⟩
        have HB1 := Lib.hid hO.2.1
        obtain ⟨g, cap', rfl, hc0, -, -⟩ := hO.cell [] (j := 0) (by simp)
        have hc : w1.cell? ⟨g, 0, none⟩ = some (.string (bs x)) := hc0
        clear hO hc0
        simp only [List.length_cons]
        go_wp2
        go_ret2
        exact ⟨rfl, HB1.out⟩
    · have HON : Hid (o = none) := Lib.hid (by rw [HO.out, if_neg (fun h => hn h.2)])
      have hlen : ((ws.length : Int) + 1 != (km : Int) + 1) = true := by rw [bne_iff_ne]; omega
      rw [HON.out]
      generalize bs line = sl at *
      generalize bs word = sw at *
      go_enter Tryz.func18, Tryz.ntmps18
      go_wp2_with fail
      refine HSP.out.mono ?_
      rintro e w1 ⟨u, rfl, hO⟩
      have HB1 := Lib.hid hO.2.1
      obtain ⟨A, cap', rfl, -, -⟩ := hO.form
      clear hO
      simp only [List.length_cons]
      go_wp2
      go_ret2
      exact ⟨rfl, HB1.out⟩
end Go.Proofs.YtibinmabdidecaaGreatDoor
