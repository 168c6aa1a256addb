/-
  bits.Parse; the reader's truths, walked.
-/
import Derived.Test.YtibinmabdidecaaGreatDoorTpF
namespace Go.Proofs.YtibinmabdidecaaGreatDoor
open Go.ChangeShapes Go.WideShapes Go.ChangeAt Go.RowKit
set_option linter.unusedVariables false
set_option linter.unusedSimpArgs false
theorem infoBo : (Tryz.prog.info? 4).map (fun i => (i.zero, i.size, i.bytes)) = some (some (.bool false), 1, 1) := by kernel_rfl
def KB : Knd Bool := ⟨4, 23, Value.bool, .bool false, 1, fun _ => rfl, Tryz.underlying23, infoBo, rfl, by decide⟩
theorem bitsP_snoc : ∀ (a : List UInt8) (c : UInt8), bitsP (a ++ [c]) = match bitsP a with | some l => if c = 48 ∨ c = 49 then some (l ++ [decide (c = 49)]) else none | none => none
  | [], c => by
    simp only [List.nil_append, bitsP]
  | x :: a, c => by
    rw [List.cons_append, bitsP, bitsP, bitsP_snoc a c]
    by_cases hx : x = 48 ∨ x = 49
    · rw [if_pos hx, if_pos hx]
      cases bitsP a with
      | none => rfl
      | some l =>
        simp only
        by_cases hc : c = 48 ∨ c = 49
        · rw [if_pos hc, if_pos hc]
          rfl
        · rw [if_neg hc, if_neg hc]
    · rw [if_neg hx, if_neg hx]
theorem bitsP_none : ∀ (a b : List UInt8), bitsP a = none → bitsP (a ++ b) = none
  | [], b, h => by simp [bitsP] at h
  | x :: a, b, h => by
    rw [List.cons_append, bitsP]
    rw [bitsP] at h
    by_cases hx : x = 48 ∨ x = 49
    · rw [if_pos hx] at h ⊢
      cases ha : bitsP a with
      | none => rw [bitsP_none a b ha]
      | some l => rw [ha] at h; simp at h
    · rw [if_neg hx]
def bits4 (l : List UInt8) : Option (List Bool) := if 4096 < l.length then none else bitsP l
def BitsQ (w : World) (o : Option (List Bool)) (e : Ending) (w' : World) : Prop := match o with
  | some v => ∃ u, e = .returned (.tuple #[u, .bool true]) ∧ OwnG KB w w' u v
  | none => e = .returned (.tuple #[.slice none 0 0, .bool false]) ∧ Below w.heap.size w w'
set_option maxHeartbeats 2000000 in
theorem bits_Parse (s : ByteArray) (w : World) (hs : s.size ≤ 100000) : Calls Tryz.prog 58 #[.string s] w (BitsQ w (bits4 s.data.toList)) := by
  have hlen : s.data.toList.length = s.size := by rw [Array.length_toList]; rfl
  unfold bits4
  by_cases h4 : 4096 < s.size
  · rw [if_pos (by omega)]
    have h4' : (4096 : Int) < (s.size : Int) := by omega
    clear hlen
    go_enter Tryz.func58, Tryz.ntmps58
    go_wp2
    go_step3
    go_wp2
    repeat rw [Exit.noGoto_ret]
    go_ret2
    exact ⟨rfl, Below.refl _ _⟩
  · rw [if_neg (by omega)]
    have h4' : ¬ (4096 : Int) < (s.size : Int) := by omega
    have HLN := Lib.hid hlen
    obtain ⟨o, ho⟩ : ∃ o, o = bitsP s.data.toList := ⟨_, rfl⟩
    have HO := Lib.hid ho
    rw [← ho]
    clear hlen ho
    go_enter Tryz.func58, Tryz.ntmps58
    go_wp2
    go_step3
    go_wp2
    go_step3
    go_wp2
    go_loopw [2, 4, 10] (fun u _ c wr => ∃ k : Nat, ∃ l, k ≤ s.size ∧ c = .int .i64 k ∧ bitsP (s.data.toList.take k) = some l ∧ l.length = k ∧ OwnG KB w wr u l) (fun _ _ c _ => s.size - (intOf c).toNat)
    case atStart => exact ⟨0, [], Nat.zero_le _, rfl, rfl, rfl, OwnG.start KB w⟩
    case round =>
      obtain ⟨k, l, hk, rfl, hb, hll, hO⟩ := hrel
      have HB := Lib.hid hb
      have HLL := Lib.hid hll
      have HOW := Lib.hid hO
      have HBW := Lib.hid hO.2.1
      clear hb hll hO
      by_cases hlt : k < s.size
      · have hsn := take_snocB s k hlt
        have HSN := Lib.hid hsn
        have hsb := bitsP_snoc (s.data.toList.take k) s[k]
        rw [← hsn, HB.out] at hsb
        have HSB := Lib.hid hsb
        clear hsn hsb
        obtain ⟨c, hc⟩ : ∃ c, c = s[k] := ⟨_, rfl⟩
        by_cases h48 : s[k] = 48
        · have e1 : ((s[k].toNat : Int) == 48) = true := by rw [h48]; rfl
          have e2 : ((s[k].toNat : Int) == 49) = false := by rw [h48]; rfl
          have HNX : Hid (bitsP (s.data.toList.take (k + 1)) = some (l ++ [false])) := Lib.hid (by have := HSB.out; simp only at this; rw [if_pos (.inl h48)] at this; rw [this, h48]; rfl)
          clear h48 hc
          go_wp2_with (at_builtin; refine wpList_G KB rfl _ _ rfl l rfl (some ⟨wr.heap.size, 0, none⟩) 1 1 [false] rfl rfl ?hb (HOW.out.below ((Below.refl _ wr).alloc (Nat.le_refl _) (.cells #[.bool false] 4))) (Src.one (heap_alloc_new wr _)) ?_; (case hb => (have := HLL.out; omega)); intro v4 w4 h4; have H4 := Lib.hid h4; clear h4)
          go_roundw
          case rel => exact ⟨k + 1, l ++ [false], by omega, by go_num, HNX.out, by rw [List.length_append, HLL.out]; rfl, H4.out⟩
          case measure => simp [intOf]; omega
        · by_cases h49 : s[k] = 49
          · have e1 : ((s[k].toNat : Int) == 48) = false := by rw [h49]; rfl
            have e2 : ((s[k].toNat : Int) == 49) = true := by rw [h49]; rfl
            have HNX : Hid (bitsP (s.data.toList.take (k + 1)) = some (l ++ [true])) := Lib.hid (by have := HSB.out; simp only at this; rw [if_pos (.inr h49)] at this; rw [this, h49]; rfl)
            clear h48 h49 hc
            go_wp2_with (at_builtin; refine wpList_G KB rfl _ _ rfl l rfl (some ⟨wr.heap.size, 0, none⟩) 1 1 [true] rfl rfl ?hb (HOW.out.below ((Below.refl _ wr).alloc (Nat.le_refl _) (.cells #[.bool true] 4))) (Src.one (heap_alloc_new wr _)) ?_; (case hb => (have := HLL.out; omega)); intro v4 w4 h4; have H4 := Lib.hid h4; clear h4)
            go_roundw
            case rel => exact ⟨k + 1, l ++ [true], by omega, by go_num, HNX.out, by rw [List.length_append, HLL.out]; rfl, H4.out⟩
            case measure => simp [intOf]; omega
          · have e1 : ((s[k].toNat : Int) == 48) = false := by
              rw [beq_eq_false_iff_ne]
              intro e
              exact h48 (UInt8.toNat.inj (by have : (48 : UInt8).toNat = 48 := rfl; omega))
            have e2 : ((s[k].toNat : Int) == 49) = false := by
              rw [beq_eq_false_iff_ne]
              intro e
              exact h49 (UInt8.toNat.inj (by have : (49 : UInt8).toNat = 49 := rfl; omega))
            have hon : o = none := by
              have h1 := HSB.out
              simp only at h1
              rw [if_neg (by rintro (h | h); exact h48 h; exact h49 h)] at h1
              rw [HO.out, ← List.take_append_drop (k + 1) s.data.toList]
              exact bitsP_none _ _ h1
            subst hon
            clear h48 h49 hc
            go_wp2
            repeat rw [Exit.noGoto_ret]
            go_ret2
            exact ⟨rfl, HBW.out⟩
      · obtain rfl : k = s.size := by omega
        have hon : o = some l := by
          have h1 := HB.out
          rw [List.take_of_length_le (by have := HLN.out; omega)] at h1
          rw [HO.out, h1]
        subst hon
        clear hlt
        go_wp2
        repeat rw [Exit.noGoto_ret]
        go_ret2
        exact ⟨_, rfl, HOW.out⟩
end Go.Proofs.YtibinmabdidecaaGreatDoor
/-
  Package trace: the reader's truths, walked.
-/
namespace Go.Proofs.YtibinmabdidecaaGreatDoor
open Go.ChangeShapes Go.WideShapes Go.ChangeAt Go.RowKit
set_option linter.unusedVariables false
set_option linter.unusedSimpArgs false
theorem bitsP_len : ∀ {y : List UInt8} {l : List Bool}, bitsP y = some l → l.length = y.length
  | [], l, h => by simp [bitsP] at h; subst h; rfl
  | c :: y, l, h => by
    rw [bitsP] at h
    by_cases hc : c = 48 ∨ c = 49
    · rw [if_pos hc] at h
      cases hb : bitsP y with
      | none => rw [hb] at h; simp at h
      | some m =>
        rw [hb] at h
        simp at h
        subst h
        simp [bitsP_len hb]
    · rw [if_neg hc] at h; simp at h
/-- The truths of the next line, and what is behind it. -/
def boolsR (word rest : List UInt8) : Option (List Bool × List UInt8) := match nextT word 1 rest with
  | some (ws, r) => (match truthsP (ws.getD 0 []) with | some l => some (l, r) | none => none)
  | none => none
theorem boolsR_eq (word rest : List UInt8) : boolsR word rest = match cutT rest with | some (line, r) => (match boolsT word line with | some l => some (l, r) | none => none) | none => none := by
  unfold boolsR nextT boolsT
  cases cutT rest with
  | none => rfl
  | some q =>
    obtain ⟨line, r⟩ := q
    simp only
    cases hw : wordsT line with
    | nil => rfl
    | cons x ws =>
      cases ws with
      | nil =>
        simp only
        rw [if_neg (by simp)]
      | cons y ys =>
        cases ys with
        | nil =>
          simp only
          by_cases hc : x = word
          · rw [if_pos ⟨hc, rfl⟩, if_pos hc]
            rfl
          · rw [if_neg (fun h => hc h.1), if_neg hc]
        | cons z zs =>
          simp only
          rw [if_neg (by simp)]
/-- Truths in a list that the call made. -/
def BoolsL (w w' : World) (u : Value) (l : List Bool) : Prop := Row w' 4 1 u l.length (l.map Value.bool) ∧ ∀ g, u.ownBlock = some g → w.heap.size ≤ g
def BoolsQ (w : World) (r n : Nat) (o : Option (List Bool × List UInt8)) (e : Ending) (w' : World) : Prop := Chg (fun k => k = r) w w' ∧ match o with
  | some (l, rest) => ∃ u, e = .returned (.tuple #[u, .nilIface]) ∧ BoolsL w w' u l ∧ RdAt w' r rest (n + 1)
  | none => ∃ v, e = .returned (.tuple #[.slice none 0 0, v]) ∧ Bad w' 2 n v
theorem truthsP_bits (y : List UInt8) : truthsP y = if y = [45] then some [] else match bits4 y with | some l => if l = [] then none else some l | none => none := by
  unfold truthsP bits4
  by_cases h1 : y = [45]
  · rw [if_pos h1, if_pos h1]
  · rw [if_neg h1, if_neg h1]
    by_cases h4 : 4096 < y.length
    · rw [if_pos (.inr h4), if_pos h4]
    · rw [if_neg h4]
      by_cases h0 : y = []
      · rw [if_pos (.inl h0), h0]
        rfl
      · rw [if_neg (by rintro (h | h); exact h0 h; exact h4 h)]
        cases hb : bitsP y with
        | none => rfl
        | some l =>
          have e := bitsP_len hb
          simp only
          rw [if_neg (fun e2 => h0 (List.eq_nil_of_length_eq_zero (by rw [← e, e2]; rfl)))]
set_option maxHeartbeats 4000000 in
theorem bools_ {w : World} {r n : Nat} {rest : List UInt8} (h : RdAt w r rest n) (hm : MaxL w) (hL : Laid w) (hr : r ≠ 0) (hl : rest.length ≤ 100000) (hn : n ≤ 100000) (word : List UInt8) :
    Calls Tryz.prog 36 #[rdp r, .string (bs word)] w (BoolsQ w r n (boolsR word rest)) := by
  have HNX := Lib.hid (next_ h hm hl word 1 ⟨by omega, by omega⟩)
  have HL := Lib.hid hL
  have HRD := Lib.hid h
  have HLEN := Lib.hid hl
  cases ho : nextT word 1 rest with
  | none =>
    have HO : Hid (boolsR word rest = none) := Lib.hid (by unfold boolsR; rw [ho])
    rw [ho] at HNX
    clear h hm hL hr hl ho
    rw [HO.out]
    generalize bs word = sw at *
    go_enter Tryz.func36, Tryz.ntmps36
    go_wp2_with fail
    refine HNX.out.mono ?_
    rintro e w1 ⟨v, rfl, hb, hw⟩
    obtain ⟨x, rfl⟩ := hb.iface
    have c1 : w1.cell? ⟨r, 1, none⟩ = some (.int .i64 (n : Int)) := (HRD.out.below hw).cell 1
    have HW := Lib.hid (Wrap_B (HL.out.below hw) hb (n : Int))
    have HB := Lib.hid hw
    clear hb hw
    go_wp2_with fail
    refine HW.out.mono ?_
    rintro e w2 ⟨u, rfl, hb, hw⟩
    have HF : Hid (BoolsQ w r n none (.returned (.tuple #[.slice none 0 0, u])) w2) := Lib.hid ⟨Chg.of_below (HB.out.trans (hw.mono HB.out.size)), u, rfl, hb⟩
    clear hb hw c1
    go_wp2
    go_ret2
    exact HF.out
  | some q =>
    obtain ⟨ws, r'⟩ := q
    obtain ⟨hwl, hwy, hrl⟩ := nextT_parts ho
    obtain ⟨y, rfl⟩ := List.length_eq_one_iff.1 hwl
    have hyl := hwy y (by simp)
    have HO : Hid (boolsR word rest = match truthsP y with | some l => some (l, r') | none => none) := Lib.hid (by unfold boolsR; rw [ho]; rfl)
    rw [ho] at HNX
    have HBP := Lib.hid (fun W => bits_Parse (bs y) W (by rw [bs_size]; omega))
    rw [bs_list] at HBP
    obtain ⟨o, hoo⟩ : ∃ o, o = boolsR word rest := ⟨_, rfl⟩
    have HOO := Lib.hid hoo
    rw [← hoo]
    have HBR : Hid (r < w.heap.size) := Lib.hid HRD.out.lt
    generalize bs word = sw at *
    clear h hm hL hr hl ho hwl hwy hrl hyl hoo
    have HTP := Lib.hid (truthsP_bits y)
    obtain ⟨p, hp⟩ : ∃ p, p = bits4 y := ⟨_, rfl⟩
    rw [← hp] at HBP HTP
    have hd : decide (y = [45]) = true ↔ y = [45] := by simp
    have HFIN : Hid (∀ w1, RdAt w1 r r' n → Chg (fun k => k = r) w w1 → ∀ w2, Below w1.heap.size w1 w2 → ∀ u l, (Row w2 4 1 u l.length (l.map Value.bool) ∧ ∀ g, u.ownBlock = some g → w1.heap.size ≤ g) → o = some (l, r') → BoolsQ w r n o (.returned (.tuple #[u, .nilIface])) (w2.setCell ⟨r, 1, none⟩ (.int .i64 ((n : Int) + 1)))) := Lib.hid fun w1 h1 hc w2 hb u l hu ho => by
      rw [ho]
      have hlt := HBR.out
      have hs := hc.size
      have hcs : Chg (fun k => k = r) w2 (w2.setCell ⟨r, 1, none⟩ (.int .i64 ((n : Int) + 1))) := (Chg.refl (fun k => k = r) w2).setCell (p := ⟨r, 1, none⟩) (.inl rfl) _
      refine ⟨(hc.trans (Chg.of_below (S := fun k => k = r) hb) (fun i hi => .inl hi)).trans hcs (fun i hi => .inl hi), u, rfl, ⟨hu.1.chg hcs (fun g hg e => ?_), fun g hg => ?_⟩, ?_⟩
      · have := hu.2 g hg
        omega
      · have := hu.2 g hg
        omega
      · have := (h1.below hb).set_ 1 (.int .i64 ((n : Int) + 1))
        have e : ((n : Int) + 1) = ((n + 1 : Nat) : Int) := by omega
        rw [e] at this ⊢
        exact this
    have HBADF : Hid (∀ w1, Chg (fun k => k = r) w w1 → ∀ w3, Below w1.heap.size w1 w3 → ∀ v, Bad w3 2 n v → o = none → BoolsQ w r n o (.returned (.tuple #[.slice none 0 0, v])) w3) := Lib.hid fun w1 hc w3 hb v hv ho => by
      rw [ho]
      exact ⟨hc.trans (Chg.of_below (S := fun k => k = r) hb) (fun i hi => .inl hi), v, rfl, hv⟩
    by_cases hy : y = [45]
    · have HY : Hid (((bs y).toList == [45]) = true) := Lib.hid (by rw [hy, Lib.toList_data]; rfl)
      have HOS : Hid (o = some ([], r')) := Lib.hid (by rw [HOO.out, HO.out, HTP.out, if_pos hy])
      have hpn : p = none := by rw [hp, hy]; rfl
      subst hpn
      clear hd hp hy
      go_enter Tryz.func36, Tryz.ntmps36
      go_wp2_with fail
      refine HNX.out.mono ?_
      rintro e w1 ⟨b, rfl, hwd, hrd, hch, hb1, hb2⟩
      have q0 : w1.cell? ⟨b, 1, none⟩ = some (.string (bs y)) := hwd 0 (by simp)
      have HRD1 := Lib.hid hrd
      have HCH := Lib.hid hch
      clear hwd hrd hch
      generalize bs y = sy at *
      go_wp2_with fail
      refine (HBP.out _).mono ?_
      rintro e w2 ⟨rfl, hb⟩
      have HB2 := Lib.hid hb
      have q2 := cell_below q0 hb
      have hR := HRD1.out.below hb
      have c1 : w2.cell? ⟨r, 1, none⟩ = some (.int .i64 (n : Int)) := hR.cell 1
      have f1 := hR.frozen 1
      have hy1 := HY.out
      have HFF := Lib.hid (HFIN.out w1 HRD1.out HCH.out w2 hb (.slice none 0 0) [] ⟨World.ownsRow_nil _ _ _ _, fun k hk => by simp [Value.ownBlock] at hk⟩ HOS.out)
      clear hb q0 hR
      go_wp2
      go_ret2
      exact HFF.out
    · have HY : Hid (((bs y).toList == [45]) = false) := Lib.hid (by rw [Lib.toList_data, bs_list, beq_eq_false_iff_ne]; exact hy)
      cases p with
      | none =>
        have HOS : Hid (o = none) := Lib.hid (by rw [HOO.out, HO.out, HTP.out, if_neg hy])
        clear hd hp hy
        go_enter Tryz.func36, Tryz.ntmps36
        go_wp2_with fail
        refine HNX.out.mono ?_
        rintro e w1 ⟨b, rfl, hwd, hrd, hch, hb1, hb2⟩
        have q0 : w1.cell? ⟨b, 1, none⟩ = some (.string (bs y)) := hwd 0 (by simp)
        have HRD1 := Lib.hid hrd
        have HCH := Lib.hid hch
        clear hwd hrd hch
        generalize bs y = sy at *
        go_wp2_with fail
        refine (HBP.out _).mono ?_
        rintro e w2 ⟨rfl, hb⟩
        have HB2 := Lib.hid hb
        have q2 := cell_below q0 hb
        have HBD := Lib.hid (bad_ (HRD1.out.below hb))
        have hy1 := HY.out
        clear hb q0
        go_wp2_with fail
        refine HBD.out.mono ?_
        rintro e w3 ⟨v, rfl, hbv, hw⟩
        have HFF := Lib.hid (HBADF.out w1 HCH.out w3 (HB2.out.trans (hw.mono HB2.out.size)) v hbv HOS.out)
        clear hbv hw
        go_wp2
        go_ret2
        exact HFF.out
      | some l =>
        by_cases hl0 : l = []
        · have HOS : Hid (o = none) := Lib.hid (by rw [HOO.out, HO.out, HTP.out, if_neg hy]; simp only; rw [if_pos hl0])
          subst hl0
          clear hd hp hy
          go_enter Tryz.func36, Tryz.ntmps36
          go_wp2_with fail
          refine HNX.out.mono ?_
          rintro e w1 ⟨b, rfl, hwd, hrd, hch, hb1, hb2⟩
          have q0 : w1.cell? ⟨b, 1, none⟩ = some (.string (bs y)) := hwd 0 (by simp)
          have HRD1 := Lib.hid hrd
          have HCH := Lib.hid hch
          clear hwd hrd hch
          generalize bs y = sy at *
          go_wp2_with fail
          refine (HBP.out _).mono ?_
          rintro e w2 ⟨u, rfl, hO⟩
          have hb := hO.2.1
          obtain ⟨A, cap, rfl, -, -⟩ := hO.form
          have HB2 := Lib.hid hb
          have q2 := cell_below q0 hb
          have HBD := Lib.hid (bad_ (HRD1.out.below hb))
          have hy1 := HY.out
          clear hb q0 hO
          go_wp2_with fail
          refine HBD.out.mono ?_
          rintro e w3 ⟨v, rfl, hbv, hw⟩
          have HFF := Lib.hid (HBADF.out w1 HCH.out w3 (HB2.out.trans (hw.mono HB2.out.size)) v hbv HOS.out)
          clear hbv hw
          go_wp2
          go_ret2
          exact HFF.out
        · have HOS : Hid (o = some (l, r')) := Lib.hid (by rw [HOO.out, HO.out, HTP.out, if_neg hy]; simp only; rw [if_neg hl0])
          have hlen : 0 < l.length := List.length_pos_iff.2 hl0
          clear hd hp hy hl0
          go_enter Tryz.func36, Tryz.ntmps36
          go_wp2_with fail
          refine HNX.out.mono ?_
          rintro e w1 ⟨b, rfl, hwd, hrd, hch, hb1, hb2⟩
          have q0 : w1.cell? ⟨b, 1, none⟩ = some (.string (bs y)) := hwd 0 (by simp)
          have HRD1 := Lib.hid hrd
          have HCH := Lib.hid hch
          clear hwd hrd hch
          generalize bs y = sy at *
          go_wp2_with fail
          refine (HBP.out _).mono ?_
          rintro e w2 ⟨u, rfl, hO⟩
          have hb := hO.2.1
          have HOW := Lib.hid hO
          obtain ⟨A, cap, rfl, -, -⟩ := hO.form
          have q2 := cell_below q0 hb
          have hR := HRD1.out.below hb
          have c1 : w2.cell? ⟨r, 1, none⟩ = some (.int .i64 (n : Int)) := hR.cell 1
          have f1 := hR.frozen 1
          have hy1 := HY.out
          have hne : ((l.length : Int) == 0) = false := by rw [beq_eq_false_iff_ne]; omega
          have HFF := Lib.hid (HFIN.out w1 HRD1.out HCH.out w2 hb _ l ⟨HOW.out.1, HOW.out.2.2⟩ HOS.out)
          clear hb q0 hR hO
          go_wp2
          go_ret2
          exact HFF.out
end Go.Proofs.YtibinmabdidecaaGreatDoor
