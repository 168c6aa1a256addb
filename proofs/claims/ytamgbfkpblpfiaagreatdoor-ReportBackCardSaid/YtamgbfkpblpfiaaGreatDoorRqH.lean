/-
  Package report: the verdict's line, walked.
-/
import Derived.Test.YtamgbfkpblpfiaaGreatDoorRqE
import Derived.Shelf.SlicesE.Kit
import Derived.Lib.SlBy
import Derived.Test.YtamgbfkpblpfiaaGreatDoorApp
import Derived.Deep.RegionLaw
import Derived.Test.YtamgbfkpblpfiaaGreatDoorTpT
namespace Go.Proofs.YtamgbfkpblpfiaaGreatDoor
open Go.ChangeShapes Go.WideShapes Go.ChangeAt Go.RowKit
set_option linter.unusedVariables false
set_option linter.unusedSimpArgs false
/-- A word's place in a list, or -1. -/
def idxI (x : List UInt8) (ls : List (List UInt8)) : Int := match idxL x ls with
  | some k => (k : Int)
  | none => -1
theorem idxBy_words (x : List UInt8) : ∀ (ls : List (List UInt8)) (i : Nat), Lib.idxByFrom (fun a b : ByteArray => a.toList == b.toList) (bs x) (ls.map bs) i = match idxL x ls with | some k => ((i + k : Nat) : Int) | none => -1
  | [], i => rfl
  | y :: ys, i => by
    rw [List.map_cons, Lib.idxByFrom, idxL]
    rw [Lib.toList_data, Lib.toList_data, bs_list, bs_list]
    by_cases h : y = x
    · subst h
      rw [if_pos (by simp), if_pos rfl]
      simp
    · rw [if_neg (by simpa using fun e => h e.symm), if_neg h, idxBy_words x ys (i + 1)]
      cases idxL x ys with
      | none => rfl
      | some k =>
        show ((i + 1 + k : Nat) : Int) = ((i + (k + 1) : Nat) : Int)
        rw [Nat.add_right_comm, Nat.add_assoc]
theorem index_ {w : World} {b c : Nat} (ls : List (List UInt8)) (x : List UInt8) (hl : ls.length ≤ 1000) (hc : ∀ j, j < ls.length → w.cell? ⟨b, j, none⟩ = some (.string (bs (ls.getD j [])))) :
    Calls Tryz.prog 40 #[.slice (some ⟨b, 0, none⟩) ls.length c, .string (bs x)] w fun e w' => e = .returned (.int .i64 (idxI x ls)) ∧ w' = w := by
  have h := Tryz.slices_Index Value.string (fun x y => x.toList == y.toList) (EqlAt.string _ _) b 0 ls.length c (ls.map bs) (bs x) w (by simp) (by omega) (fun j hj => by
    rw [List.length_map] at hj
    rw [Nat.zero_add, hc j hj, List.getElem!_eq_getElem?_getD, List.getElem?_map, List.getElem?_eq_getElem hj, List.getD_eq_getElem?_getD, List.getElem?_eq_getElem hj]
    rfl)
  rw [List.take_of_length_le (by simp)] at h
  have e : Lib.idxBy (fun a b : ByteArray => a.toList == b.toList) (ls.map bs) (bs x) = idxI x ls := by
    rw [Lib.idxBy, idxBy_words]
    unfold idxI
    cases idxL x ls with
    | none => rfl
    | some k => simp
  rw [e] at h
  exact h
set_option maxHeartbeats 4000000 in
set_option maxRecDepth 100000 in
theorem verdict_ {w : World} {r n : Nat} {d : RpD} {vl vm vi vp vw : Value} {rest : List UInt8} (h : RqAt w r d vl vm vi vp rest n vw) (hp : PoAt w r vp d.ports) (hm : MaxL w) (hL : Laid w) (hl : rest.length ≤ 100000) :
    Calls Tryz.prog 13 #[rdp r] w (StepQ w r vl vm vi n (rdL 0 d rest)) := by
  have HLN := Lib.hid (rdline_ h hm hL hl wVer (some 1) (fun m hm => by injection hm with hm; omega))
  have HP := Lib.hid hp
  have HR := Lib.hid h
  obtain ⟨o, hoo⟩ : ∃ o, o = rdL 0 d rest := ⟨_, rfl⟩
  rw [← hoo]
  have HOO := Lib.hid hoo
  have hwd : bs wVer = ⟨#[118, 101, 114, 100, 105, 99, 116]⟩ := rfl
  rw [hwd] at HLN
  clear h hp hm hL hl hwd hoo
  cases ho : lineR wVer (some 1) rest with
  | none =>
    rw [ho] at HLN
    have HON : Hid (o = none) := Lib.hid (by rw [HOO.out]; simp only [rdL, ho])
    clear ho
    go_enter Tryz.func13, Tryz.ntmps13
    go_wp2_with fail
    refine HLN.out.mono ?_
    rintro e w1 ⟨v, rfl, hb, hw⟩
    have HF : Hid (StepQ w r vl vm vi n o (.returned v) w1) := Lib.hid (by rw [HON.out]; exact ⟨Chg.of_below hw, v, rfl, hb⟩)
    obtain ⟨x9, rfl⟩ := hb.iface
    clear hb hw
    go_wp2
    go_ret
    exact HF.out
  | some q =>
    obtain ⟨ws, r'⟩ := q
    obtain ⟨hs, -, h1⟩ := lineR_inv ho
    have hwl : ws.length = 1 := h1 1 rfl
    rw [ho] at HLN
    have HLR := Lib.hid ho
    have HWL := Lib.hid hwl
    clear ho hs h1 hwl
    have hsz : wordsA.size = 4 := by kernel_rfl
    have hone : wordsA.all (·.oneCell') = true := by kernel_rfl
    have hi : (Tryz.prog.info? 77).map (·.size) = some 4 := by kernel_rfl
    have HWA : Hid (∀ k, k < 4 → wordsA[k]? = some (.string (bs (wordsL.getD k [])))) := Lib.hid wordsA_at
    have HVD : Hid (∀ w, Calls Tryz.prog 38 #[] w fun e w' => e = .returned (.agg wordsA) ∧ Below w.heap.size w w') := Lib.hid verdicts_
    generalize wordsA = cs at *
    have hsc := fun w => run_storeCells_new (P := Tryz.prog) w 77 #[.string ⟨#[]⟩, .string ⟨#[]⟩, .string ⟨#[]⟩, .string ⟨#[]⟩] cs (by rw [hsz]; exact hi) (by rw [hsz]; rfl) hone
    clear hone hi
    go_enter Tryz.func13, Tryz.ntmps13
    go_wp2_with fail
    refine HLN.out.mono ?_
    rintro e w1 ⟨b, rfl, hwds, hat, hch, hb1, hb2⟩
    rw [HWL.out] at hat
    have HWD := Lib.hid hwds
    have HAT := Lib.hid hat
    have HCH := Lib.hid hch
    clear hwds hat hch hb1 hb2
    go_wp2_with fail
    refine (HVD.out w1).mono ?_
    rintro e w2 ⟨rfl, hb⟩
    have HB := Lib.hid hb
    obtain ⟨W3, hW3⟩ : ∃ W3, W3 = (w2.alloc (.cells cs 77)).drew := ⟨_, rfl⟩
    have hB3 : Below w1.heap.size w1 W3 := by rw [hW3]; exact (hb.alloc hb.size _).drew
    have h3 := HAT.out.below hB3
    have k14 := h3.words.1
    have q0 := cell_below (HWD.out 0 (by have := HWL.out; omega)) hB3
    have c0 : W3.cell? ⟨r, 0, none⟩ = some (.int .i64 d.verdict) := h3.cell 0
    have f0 := h3.frozen 0
    obtain ⟨y, hy⟩ : ∃ y, y = ws.getD 0 [] := ⟨_, rfl⟩
    rw [← hy] at q0
    unfold strV at q0
    have HIX : Hid (Calls Tryz.prog 40 #[.slice (some ⟨w2.heap.size, 0, none⟩) 4 4, .string (bs y)] W3 fun e w' => e = .returned (.int .i64 (idxI y wordsL)) ∧ w' = W3) := Lib.hid (index_ (c := 4) wordsL y (by decide) (fun j hj => by
      have hB := (Blk.new w2 77 cs).cell j
      rw [hW3]
      show (w2.alloc (.cells cs 77)).cell? ⟨w2.heap.size, j, none⟩ = _
      rw [hB, HWA.out j hj]))
    have HCZ : Hid (∀ i, Chg (fun k => k = r) w (W3.setCell ⟨r, 0, none⟩ (.int .i64 i))) := Lib.hid fun i => (HCH.out.trans (Chg.of_below (S := fun k => k = r) hB3) (fun i hi => .inl hi)).setCell (p := ⟨r, 0, none⟩) (.inl rfl) _
    have HAZ : Hid (∀ i, RqAt (W3.setCell ⟨r, 0, none⟩ (.int .i64 i)) r { d with verdict := i } vl vm vi vp r' n (.slice (some ⟨b, 1, none⟩) 1 1)) := Lib.hid fun i => h3.set_ 0 (.int .i64 i)
    have HBD : Hid (∀ i, Calls Tryz.prog 41 #[rdp r] (W3.setCell ⟨r, 0, none⟩ (.int .i64 i)) (BadR (W3.setCell ⟨r, 0, none⟩ (.int .i64 i)) n)) := Lib.hid fun i => qbad_ (HAZ.out i)
    have cz : ∀ i, (W3.setCell ⟨r, 0, none⟩ (.int .i64 i)).cell? ⟨r, 0, none⟩ = some (.int .i64 i) := fun i => (HAZ.out i).cell 0
    have ez : ∀ i, W3.setCell ⟨r, 0, none⟩ (.int .i64 i) = ((w2.alloc (.cells cs 77)).setCell ⟨r, 0, none⟩ (.int .i64 i)).drew := fun i => by rw [hW3]; rfl
    simp only [ez] at HCZ HAZ HBD cz
    replace cz : ∀ i, ((w2.alloc (.cells cs 77)).setCell ⟨r, 0, none⟩ (.int .i64 i)).cell? ⟨r, 0, none⟩ = some (.int .i64 i) := cz
    rw [hW3] at HIX k14 q0 c0 f0
    clear ez
    have HYE := Lib.hid hy
    clear hb hB3 h3 hy hW3
    have HOI : Hid (o = match idxL y wordsL with | some i => some ({ d with verdict := (i : Int) }, r') | none => none) := Lib.hid (by rw [HOO.out]; simp only [rdL, HLR.out]; rw [← HYE.out]; cases idxL y wordsL <;> rfl)
    unfold idxI at HIX
    cases hi : idxL y wordsL with
    | none =>
      rw [hi] at HIX HOI
      simp only at HIX HOI
      clear hi
      generalize bs y = sy at *
      go_wp2_with fail
      go_region_with (go_at_call 40; (with_reducible refine HIX.out.mono ?_); rintro e w4 ⟨rfl, rfl⟩)
      all_goals
        go_wp2_with fail
        refine (HBD.out _).mono ?_
        rintro e w5 ⟨v, rfl, hv, hw⟩
        have HF : Hid (StepQ w r vl vm vi n o (.returned v) w5) := Lib.hid (by rw [HOI.out]; exact ⟨(HCZ.out _).trans (Chg.of_below (S := fun k => k = r) hw) (fun i hi => .inl hi), v, rfl, hv⟩)
        obtain ⟨x9, rfl⟩ := hv.iface
        clear hv hw
        go_wp2
        go_ret
        exact HF.out
    | some i =>
      rw [hi] at HIX HOI
      simp only at HIX HOI
      have hi0 : ¬ (i : Int) < 0 := by omega
      have HF : Hid (StepQ w r vl vm vi n o (.returned .nilIface) (((w2.alloc (.cells cs 77)).setCell ⟨r, 0, none⟩ (.int .i64 (i : Int))).drew)) := Lib.hid (by rw [HOI.out]; exact ⟨HCZ.out _, rfl, vp, _, HAZ.out _, HP.out.chg (HCZ.out _)⟩)
      clear hi
      generalize bs y = sy at *
      go_wp2_with fail
      go_region_with (go_at_call 40; (with_reducible refine HIX.out.mono ?_); rintro e w4 ⟨rfl, rfl⟩)
      all_goals
        go_wp2
        go_ret
        exact HF.out
end Go.Proofs.YtamgbfkpblpfiaaGreatDoor
/-
  Package report: the fault's line, walked.
-/
namespace Go.Proofs.YtamgbfkpblpfiaaGreatDoor
open Go.ChangeShapes Go.WideShapes Go.ChangeAt Go.RowKit
set_option linter.unusedVariables false
set_option linter.unusedSimpArgs false
def fauA (d : RpD) (vl vm vi vp : Value) (rest : List UInt8) (n : Nat) (vw : Value) (ns : List Nat) : Array Value := match ns with
  | [] => rqA d vl vm vi vp rest n vw
  | x :: _ => rqA { d with place := (x : Int) } vl vm vi vp rest n vw
theorem line_lens {wd rest r' : List UInt8} {ws : List (List UInt8)} (hs : rest = lineT wd ws ++ r') (hl : rest.length ≤ 100000) : ∀ y ∈ ws, y.length ≤ 100000 := fun y hy => by
  have := congrArg List.length hs
  rw [List.length_append] at this
  have h2 : y.length ≤ (lineT wd ws).length := by
    unfold lineT
    rw [List.length_append, List.length_append]
    have : (wordT y).length ≤ (ws.flatMap wordT).length := by
      obtain ⟨a, b, rfl⟩ := List.append_of_mem hy
      simp only [List.flatMap_append, List.flatMap_cons, List.length_append]
      omega
    have e : (wordT y).length = y.length + 1 := rfl
    omega
  omega
set_option maxHeartbeats 4000000 in
set_option maxRecDepth 100000 in
theorem fault_ {w : World} {r n : Nat} {d : RpD} {vl vm vi vp vw : Value} {rest : List UInt8} (h : RqAt w r d vl vm vi vp rest n vw) (hp : PoAt w r vp d.ports) (hm : MaxL w) (hL : Laid w) (hl : rest.length ≤ 100000) :
    Calls Tryz.prog 15 #[rdp r] w (StepQ w r vl vm vi n (rdL 2 d rest)) := by
  have HLN := Lib.hid (rdline_ h hm hL hl wFau (some 2) (fun m hm => by injection hm with hm; omega))
  have HP := Lib.hid hp
  have HR := Lib.hid h
  have HLL := Lib.hid hl
  obtain ⟨o, hoo⟩ : ∃ o, o = rdL 2 d rest := ⟨_, rfl⟩
  rw [← hoo]
  have HOO := Lib.hid hoo
  have hwd : bs wFau = ⟨#[102, 97, 117, 108, 116]⟩ := rfl
  rw [hwd] at HLN
  clear h hp hm hL hl hwd hoo
  cases ho : lineR wFau (some 2) rest with
  | none =>
    rw [ho] at HLN
    have HON : Hid (o = none) := Lib.hid (by rw [HOO.out]; simp only [rdL, ho])
    clear ho
    go_enter Tryz.func15, Tryz.ntmps15
    go_wp2_with fail
    refine HLN.out.mono ?_
    rintro e w1 ⟨v, rfl, hb, hw⟩
    have HF : Hid (StepQ w r vl vm vi n o (.returned v) w1) := Lib.hid (by rw [HON.out]; exact ⟨Chg.of_below hw, v, rfl, hb⟩)
    obtain ⟨x9, rfl⟩ := hb.iface
    clear hb hw
    go_wp2
    go_ret
    exact HF.out
  | some q =>
    obtain ⟨ws, r'⟩ := q
    obtain ⟨hs, -, h1⟩ := lineR_inv ho
    have hwl : ws.length = 2 := h1 2 rfl
    have hy := line_lens hs (by have := HLL.out; omega)
    rw [ho] at HLN
    have HLR := Lib.hid ho
    have HWL := Lib.hid hwl
    have HY := Lib.hid hy
    clear ho hs h1 hwl hy
    have hsz : namesA.size = 18 := by kernel_rfl
    have hone : namesA.all (·.oneCell') = true := by kernel_rfl
    have hi : (Tryz.prog.info? 84).map (·.size) = some 18 := by kernel_rfl
    have HWA : Hid (∀ k, k < 18 → namesA[k]? = some (.string (bs (namesL.getD k [])))) := Lib.hid namesA_at
    have HVD : Hid (∀ w, Calls Tryz.prog 43 #[] w fun e w' => e = .returned (.agg namesA) ∧ Below w.heap.size w w') := Lib.hid names_
    generalize namesA = cs at *
    have hsc := fun w => run_storeCells_new (P := Tryz.prog) w 84 #[.string ⟨#[]⟩, .string ⟨#[]⟩, .string ⟨#[]⟩, .string ⟨#[]⟩, .string ⟨#[]⟩, .string ⟨#[]⟩, .string ⟨#[]⟩, .string ⟨#[]⟩, .string ⟨#[]⟩, .string ⟨#[]⟩, .string ⟨#[]⟩, .string ⟨#[]⟩, .string ⟨#[]⟩, .string ⟨#[]⟩, .string ⟨#[]⟩, .string ⟨#[]⟩, .string ⟨#[]⟩, .string ⟨#[]⟩] cs (by rw [hsz]; exact hi) (by rw [hsz]; rfl) hone
    clear hone hi
    go_enter Tryz.func15, Tryz.ntmps15
    go_wp2_with fail
    refine HLN.out.mono ?_
    rintro e w1 ⟨b, rfl, hwds, hat, hch, hb1, hb2⟩
    rw [HWL.out] at hat
    have HWD := Lib.hid hwds
    have HAT := Lib.hid hat
    have HCH := Lib.hid hch
    have HBR : Hid (b ≠ r) := Lib.hid (by have := HR.out.lt; omega)
    clear hwds hat hch hb1 hb2
    go_wp2_with fail
    refine (HVD.out w1).mono ?_
    rintro e w2 ⟨rfl, hb⟩
    have HB := Lib.hid hb
    obtain ⟨W3, hW3⟩ : ∃ W3, W3 = (w2.alloc (.cells cs 84)).drew := ⟨_, rfl⟩
    have hB3 : Below w1.heap.size w1 W3 := by rw [hW3]; exact (hb.alloc hb.size _).drew
    have h3 := HAT.out.below hB3
    have k14 := h3.words.1
    have q0 := cell_below (HWD.out 0 (by have := HWL.out; omega)) hB3
    obtain ⟨y, hy⟩ : ∃ y, y = ws.getD 0 [] := ⟨_, rfl⟩
    rw [← hy] at q0
    unfold strV at q0
    have HIX : Hid (Calls Tryz.prog 40 #[.slice (some ⟨w2.heap.size, 0, none⟩) 18 18, .string (bs y)] W3 fun e w' => e = .returned (.int .i64 (idxI y namesL)) ∧ w' = W3) := Lib.hid (index_ (c := 18) namesL y (by decide) (fun j hj => by
      have hB := (Blk.new w2 84 cs).cell j
      rw [hW3]
      show (w2.alloc (.cells cs 84)).cell? ⟨w2.heap.size, j, none⟩ = _
      rw [hB, HWA.out j hj]))
    have HBD : Hid (Calls Tryz.prog 41 #[rdp r] W3 (BadR W3 n)) := Lib.hid (qbad_ h3)
    have HCZ : Hid (Chg (fun k => k = r) w W3) := Lib.hid (HCH.out.trans (Chg.of_below (S := fun k => k = r) hB3) (fun i hi => .inl hi))
    have HA3 := Lib.hid h3
    have HB3 := Lib.hid hB3
    have HW3 := Lib.hid hW3
    rw [hW3] at HIX k14 q0 HBD
    have HYE := Lib.hid hy
    clear hb hB3 h3 hy hW3
    have HOI : Hid (o = match idxL y namesL with | some i => (match numM great (ws.getD 1 []) with | some n => some ({ d with fault := (i : Int), place := (n : Int) }, r') | none => none) | none => none) := Lib.hid (by rw [HOO.out]; simp only [rdL, HLR.out]; rw [← HYE.out]; cases idxL y namesL with | none => rfl | some i => cases numM great (ws.getD 1 []) <;> rfl)
    unfold idxI at HIX
    cases hi : idxL y namesL with
    | none =>
      rw [hi] at HIX HOI
      simp only at HIX HOI
      clear hi
      generalize bs y = sy at *
      go_wp2_with fail
      go_region_with (go_at_call 40; (with_reducible refine HIX.out.mono ?_); rintro e w4 ⟨rfl, rfl⟩)
      all_goals
        go_wp2_with fail
        refine HBD.out.mono ?_
        rintro e w5 ⟨v, rfl, hv, hw⟩
        have HF : Hid (StepQ w r vl vm vi n o (.returned v) w5) := Lib.hid (by rw [HOI.out]; exact ⟨HCZ.out.trans (Chg.of_below (S := fun k => k = r) (by rw [HW3.out]; exact hw)) (fun i hi => .inl hi), v, rfl, hv⟩)
        obtain ⟨x9, rfl⟩ := hv.iface
        clear hv hw
        go_wp2
        go_ret
        exact HF.out
    | some i =>
      rw [hi] at HIX HOI
      simp only at HIX HOI
      have hi0 : ¬ (i : Int) < 0 := by omega
      clear hi
      have f2 : (w2.alloc (.cells cs 84)).frozen? ⟨r, 2, none⟩ = false := by have := HA3.out.frozen 2; rw [HW3.out] at this; exact this
      have c2 : (w2.alloc (.cells cs 84)).cell? ⟨r, 2, none⟩ = some (.int .i64 d.fault) := by have := HA3.out.cell 2; rw [HW3.out] at this; exact this
      generalize bs y = sy at *
      go_wp2_with fail
      go_region_with (go_at_call 40; (with_reducible refine HIX.out.mono ?_); rintro e w4 ⟨rfl, rfl⟩)
      all_goals
        go_wp2_with fail
        obtain ⟨W4, hW4⟩ : ∃ W4, W4 = ((w2.alloc (.cells cs 84)).setCell ⟨r, 2, none⟩ (.int .i64 (i : Int))).drew := ⟨_, rfl⟩
        have e4 : W4 = W3.setCell ⟨r, 2, none⟩ (.int .i64 (i : Int)) := by rw [hW4, HW3.out]; rfl
        rw [← hW4]
        have h4 : RqAt W4 r { d with fault := (i : Int) } vl vm vi vp r' n (.slice (some ⟨b, 1, none⟩) 2 2) := by rw [e4]; exact HA3.out.set_ 2 (.int .i64 (i : Int))
        have hc4 : Chg (fun k => k = r) w W4 := by rw [e4]; exact HCZ.out.setCell (p := ⟨r, 2, none⟩) (.inl rfl) _
        have hwd4 : ∀ j, j < 2 → W4.cell? ⟨b, 1 + j, none⟩ = some (strV (ws.getD j [])) := fun j hj => by
          have h1 := cell_below (HWD.out j (by have := HWL.out; omega)) HB3.out
          rw [e4]
          exact far_cell h1 HBR.out
        have k14 := h4.words.1
        have k14d : W4.drew.cell? ⟨r, 14, none⟩ = some (.slice (some ⟨b, 1, none⟩) 2 2) := k14
        have HWD4 := Lib.hid hwd4
        have HA4 := Lib.hid h4
        have HC4 := Lib.hid hc4
        clear hW4 e4 q0 f2 c2 hwd4 hc4
        obtain ⟨W0, hW0⟩ : ∃ W0, W0 = (W4.alloc (.cells #[.pointer (some ⟨r, 3, none⟩)] 83)).drew := ⟨_, rfl⟩
        have hB0 : Below W4.heap.size W4 W0 := by rw [hW0]; exact ((Below.refl _ W4).alloc (Nat.le_refl _) _).drew
        have k14e : ((W4.alloc (.cells #[.pointer (some ⟨r, 3, none⟩)] 83)).drew).cell? ⟨r, 14, none⟩ = some (.slice (some ⟨b, 1, none⟩) 2 2) := by rw [← hW0]; exact (h4.below hB0).words.1
        have HB0 := Lib.hid hB0
        have HW0 := Lib.hid hW0
        have HNQ : Hid (Calls Tryz.prog 42 #[rdp r, .slice (some ⟨b, 2, none⟩) 1 1, .int .u64 1099511627776, .slice (some ⟨W4.heap.size, 0, none⟩) 1 1] W0 (NumsP (TB W0 r (fauA { d with fault := (i : Int) } vl vm vi vp r' n (.slice (some ⟨b, 1, none⟩) 2 2))) n (numK great ((ws.drop 1).take 1)))) := Lib.hid (by
          refine qnumbers_ (m := 1) (nw := 1) (T := TB W0 r (fauA { d with fault := (i : Int) } vl vm vi vp r' n (.slice (some ⟨b, 1, none⟩) 2 2))) (ps := [3].map fun c => (⟨r, c, none⟩ : Addr)) (tgt_fields (cs := [3]) (fun ns x hn => ?_) (fun ns hn => ?_)) ⟨h4.below hB0, Chg.refl _ _⟩ (ws.drop 1) rfl (by rw [List.length_drop, HWL.out]) (fun ns W hT => ?_) (fun ns W hT j hj => ?_) (fun ns W hT j hj => ?_) (Nat.le_refl _) (fun y hy => HY.out y (List.mem_of_mem_drop hy)) (by omega) (by omega) 1099511627776 (Nat.le_refl _)
          · match ns, hn with
            | [], _ => rfl
          · match ns, hn with
            | [], _ => exact ⟨_, rfl⟩
          · match ns, hT with
            | [], hT => exact qbad_ (show RqAt W r { d with fault := (i : Int) } vl vm vi vp r' n _ from hT.1)
            | x :: _, hT => exact qbad_ (show RqAt W r { d with fault := (i : Int), place := (x : Int) } vl vm vi vp r' n _ from hT.1)
          · rw [List.length_drop] at hj
            have h1 := cell_below (HWD4.out (1 + j) (by have := HWL.out; omega)) hB0
            have h2 := World.block_lt_of_cell? W0 _ h1
            rw [World.cell?_of_block (w := W0) (hT.2.block b h2 HBR.out), List.getD_eq_getElem?_getD, List.getElem?_drop, ← List.getD_eq_getElem?_getD]
            rw [← Nat.add_assoc] at h1
            exact h1
          · have h1 : W0.cell? ⟨W4.heap.size, j, none⟩ = some (.pointer (some (([3].map fun c => (⟨r, c, none⟩ : Addr)).getD j a00))) := by
              have hB := Blk.new W4 83 #[.pointer (some ⟨r, 3, none⟩)]
              match j, hj with
              | 0, _ => rw [hW0]; exact hB.cell 0
            have h2 := World.block_lt_of_cell? W0 _ h1
            have h3 : W4.heap.size ≠ r := by have := h4.lt; omega
            rw [World.cell?_of_block (w := W0) (hT.2.block W4.heap.size h2 h3)]
            exact h1)
        rw [HW0.out] at HNQ HB0
        clear h4 hB0 hW0
        have hnk : numK great ((ws.drop 1).take 1) = match numM great (ws.getD 1 []) with | some k => some [k] | none => none := by
          have hl := HWL.out
          match ws, hl with
          | [x, y], _ =>
            show numK great [y] = _
            rw [numK, numK]
            rfl
        rw [hnk] at HNQ
        clear hnk
        cases hk : numM great (ws.getD 1 []) with
        | none =>
          rw [hk] at HNQ
          have HON : Hid (o = none) := Lib.hid (by rw [HOI.out, hk])
          clear hk
          go_wp2_with fail
          go_region_with (go_at_call 42; (with_reducible refine HNQ.out.mono ?_); rintro e w5 ⟨v, ns, rfl, hb, hT⟩; have HF : Hid (StepQ w r vl vm vi n o (.returned v) w5) := Lib.hid (by rw [HON.out]; exact ⟨(HC4.out.trans (Chg.of_below (S := fun k => k = r) HB0.out) (fun i hi => .inl hi)).trans hT.2 (fun i hi => .inl hi), v, rfl, hb⟩); clear hb hT)
          all_goals
            go_wp2
            go_ret
            exact HF.out
        | some k =>
          rw [hk] at HNQ
          have HON : Hid (o = some ({ d with fault := (i : Int), place := (k : Int) }, r')) := Lib.hid (by rw [HOI.out, hk])
          clear hk
          go_wp2_with fail
          go_region_with (go_at_call 42; (with_reducible refine HNQ.out.mono ?_); rintro e w5 ⟨rfl, hT⟩; have HCC : Hid (Chg (fun k => k = r) w w5) := Lib.hid ((HC4.out.trans (Chg.of_below (S := fun k => k = r) HB0.out) (fun i hi => .inl hi)).trans hT.2 (fun i hi => .inl hi)); have HF : Hid (StepQ w r vl vm vi n o (.returned .nilIface) w5) := Lib.hid (by rw [HON.out]; exact ⟨HCC.out, rfl, vp, _, hT.1, HP.out.chg HCC.out⟩); clear hT)
          all_goals
            go_wp2
            go_ret
            exact HF.out
end Go.Proofs.YtamgbfkpblpfiaaGreatDoor
/-
  Package report: the ports' line, walked.
-/
namespace Go.Proofs.YtamgbfkpblpfiaaGreatDoor
open Go.ChangeShapes Go.WideShapes Go.ChangeAt Go.RowKit
set_option linter.unusedVariables false
set_option linter.unusedSimpArgs false
theorem numsM_snoc (most : Nat) : ∀ (a : List (List UInt8)) (x : List UInt8), numsM most (a ++ [x]) = match numsM most a with | some l => (match numM most x with | some n => some (l ++ [(n : Int)]) | none => none) | none => none
  | [], x => by
    simp only [List.nil_append, numsM]
    cases numM most x <;> rfl
  | w :: a, x => by
    rw [List.cons_append, numsM, numsM, numsM_snoc most a x]
    cases numM most w with
    | none => rfl
    | some n =>
      cases numsM most a with
      | none => rfl
      | some l => cases numM most x <;> rfl
theorem numsM_none (most : Nat) : ∀ (a b : List (List UInt8)), numsM most a = none → numsM most (a ++ b) = none
  | [], b, h => by cases h
  | w :: a, b, h => by
    rw [List.cons_append]
    rw [numsM] at h ⊢
    cases hn : numM most w with
    | none => rfl
    | some n =>
      rw [hn] at h
      simp only at h ⊢
      cases hl : numsM most a with
      | none => rw [numsM_none most a b hl]
      | some l => rw [hl] at h; cases h
theorem numsM_len {most : Nat} : ∀ {a : List (List UInt8)} {ns : List Int}, numsM most a = some ns → ns.length = a.length
  | [], ns, h => by injection h with h; subst h; rfl
  | w :: a, ns, h => by
    rw [numsM] at h
    cases hn : numM most w with
    | none => rw [hn] at h; cases h
    | some n =>
      rw [hn] at h
      simp only at h
      cases hl : numsM most a with
      | none => rw [hl] at h; cases h
      | some l =>
        rw [hl] at h
        injection h with h
        subst h
        simp [numsM_len hl]
theorem cellN (w : World) (u : Value) (e : TypeId) (k : Nat) (hk : k = w.heap.size) : ∀ (j : Nat) (x : Value), [u][j]? = some x → (w.alloc (.cells #[u] e)).cell? ⟨k, 0 + j, none⟩ = some x := by
  intro j x hj
  subst hk
  match j, hj with
  | 0, hj => simp at hj; subst hj; simp [World.cell?_alloc_at]
theorem oneC {u : Value} (h : u.oneCell' = true) : ∀ x ∈ [u], x.oneCell' = true := fun x hx => by simp at hx; subst hx; exact h
/-- A variable as the target of a number. -/
def T1 (W0 : World) (t : Nat) (ns : List Nat) (W : World) : Prop := Blk W t 3 #[.int .i64 (ns.headD 0 : Nat)] ∧ Chg (fun k => k = t) W0 W
theorem tgt_one (W0 : World) (t : Nat) : Tgt [⟨t, 0, none⟩] (T1 W0 t) := by
  refine ⟨fun h hb => ⟨h.1.below hb h.1.lt, h.2.trans (Chg.of_below (S := fun k => k = t) hb) (fun i hi => .inl hi)⟩, fun {ns W} x h hn => ?_, fun {ns W} h hn => ?_⟩
  · match ns, hn with
    | [], _ => exact ⟨h.1.set_ 0 _, h.2.setCell (p := ⟨t, 0, none⟩) (.inl rfl) _⟩
  · match ns, hn with
    | [], _ => exact ⟨⟨_, h.1.cell 0⟩, h.1.frozen 0⟩
/-- Between two ports: the reader, with the ports so far. -/
def PInv (w1 : World) (r : Nat) (d : RpD) (vl vm vi vp : Value) (rest : List UInt8) (n : Nat) (vw : Value) (l : List Int) (wr : World) : Prop := RqAt wr r d vl vm vi vp rest n vw ∧ Row wr 3 1 vp l.length (l.map iv) ∧ (∀ q, vp.ownBlock = some q → w1.heap.size ≤ q) ∧ Chg (fun k => k = r) w1 wr
theorem PInv.below {w1 wr w' : World} {r n : Nat} {d : RpD} {vl vm vi vp vw : Value} {rest : List UInt8} {l : List Int} (h : PInv w1 r d vl vm vi vp rest n vw l wr) (hb : Below wr.heap.size wr w') : PInv w1 r d vl vm vi vp rest n vw l w' :=
  ⟨h.1.below hb, h.2.1.chg (S := fun _ => False) (Chg.of_below hb) (fun _ _ h => h), h.2.2.1, h.2.2.2.trans (Chg.of_below (S := fun k => k = r) hb) (fun i hi => .inl hi)⟩
theorem PInv.new {w1 wr w' : World} {r n t : Nat} {d : RpD} {vl vm vi vp vw : Value} {rest : List UInt8} {l : List Int} (h : PInv w1 r d vl vm vi vp rest n vw l wr) (ht : wr.heap.size ≤ t) (hc : Chg (fun k => k = t) wr w') : PInv w1 r d vl vm vi vp rest n vw l w' :=
  h.below (hc.below (Nat.le_refl _) (fun i hi => by omega))
/-- A port more. -/
theorem PInv.more {w1 wr wB : World} {r n : Nat} {d : RpD} {vl vm vi vp vw v' : Value} {rest : List UInt8} {l : List Int} (hr : r < w1.heap.size) (h : PInv w1 r d vl vm vi vp rest n vw l wr) (x : Int) (hp : AppPost wr 3 1 vp (l.length + 1) (l.map iv ++ [.int .i64 x]) v' wB) :
    PInv w1 r d vl vm vi v' rest n vw (l ++ [x]) (wB.setCell ⟨r, 11, none⟩ v') ∧ RqAt wB r d vl vm vi vp rest n vw := by
  obtain ⟨a1, a2, a3⟩ := hp
  obtain ⟨h1, h2, h3, h4⟩ := h
  have hne : ∀ q, vp.ownBlock = some q → q ≠ r := fun q hq => by have := h3 q hq; omega
  have hB : RqAt wB r d vl vm vi vp rest n vw := Blk.chg h1 a2 (fun e => hne r e rfl)
  have hv' : ∀ q, v'.ownBlock = some q → w1.heap.size ≤ q := fun q hq => by
    rcases a3 with e | e
    · rw [e] at hq; exact h3 q hq
    · rw [e] at hq; injection hq with hq; have := h4.size; omega
  refine ⟨⟨hB.set_ 11 v', ?_, hv', ?_⟩, hB⟩
  · rw [List.length_append, List.map_append]
    exact Row.setCell a1 (fun e => by have := hv' r e; omega) v'
  · exact (h4.trans a2 (fun i hi => .inr (h3 i hi))).setCell (p := ⟨r, 11, none⟩) (.inl rfl) v'
/-- What one number tells. -/
def PortN (w1 : World) (r n : Nat) (d : RpD) (vl vm vi vp : Value) (rest : List UInt8) (vw : Value) (l : List Int) (t : Nat) (o : Option Nat) (e : Ending) (w' : World) : Prop := match o with
  | some k => e = .returned .nilIface ∧ Blk w' t 3 #[.int .i64 (k : Int)] ∧ PInv w1 r d vl vm vi vp rest n vw l w'
  | none => ∃ v, e = .returned v ∧ Bad w' 2 n v ∧ Chg (fun k => k = r) w1 w'
set_option maxHeartbeats 1000000 in
theorem portnum_ {w1 wr : World} {r n b j m : Nat} {d : RpD} {vl vm vi vp vw : Value} {rest : List UInt8} {l : List Int} {ws : List (List UInt8)} (hT : PInv w1 r d vl vm vi vp rest n vw l wr) (hwd : Wds w1 b ws) (hb : b ≠ r) (hm : m = ws.length) (hj : j < m) (hy : ∀ y ∈ ws, y.length ≤ 100000) (hm9 : m ≤ 100000) :
    Calls Tryz.prog 42 #[rdp r, .slice (some ⟨b, 1 + j, none⟩) (m - j) (m - j), .int .u64 63, .slice (some ⟨wr.heap.size + 1, 0, none⟩) 1 1] ((wr.alloc (.cells #[.int .i64 0] 3)).alloc (.cells #[.pointer (some ⟨wr.heap.size, 0, none⟩)] 83)) (PortN w1 r n d vl vm vi vp rest vw l wr.heap.size (numM 63 (ws.getD j []))) := by
  obtain ⟨W0, hW0⟩ : ∃ W0, W0 = (wr.alloc (.cells #[.int .i64 0] 3)).alloc (.cells #[.pointer (some ⟨wr.heap.size, 0, none⟩)] 83) := ⟨_, rfl⟩
  have hB0 : Below wr.heap.size wr W0 := by rw [hW0]; exact ((Below.refl _ wr).alloc (Nat.le_refl _) _).alloc (by simp) _
  have hrl : r < wr.heap.size := hT.1.lt
  have hP : Blk W0 wr.heap.size 3 #[.int .i64 0] := by rw [hW0]; exact (Blk.new wr 3 #[.int .i64 0]).alloc _
  have hG : Blk W0 (wr.heap.size + 1) 83 #[.pointer (some ⟨wr.heap.size, 0, none⟩)] := by
    have := Blk.new (wr.alloc (.cells #[.int .i64 0] 3)) 83 #[.pointer (some ⟨wr.heap.size, 0, none⟩)]
    rw [show (wr.alloc (.cells #[.int .i64 0] 3)).heap.size = wr.heap.size + 1 by simp, ← hW0] at this
    exact this
  have hI : ∀ {ns : List Nat} {W : World}, T1 W0 wr.heap.size ns W → PInv w1 r d vl vm vi vp rest n vw l W := fun {ns W} h => hT.below (hB0.trans (h.2.below (B := wr.heap.size) hB0.size (fun i hi => by omega)))
  rw [← hW0]
  have hq := qnumbers_ (m := 1) (nw := m - j) (T := T1 W0 wr.heap.size) (ps := [⟨wr.heap.size, 0, none⟩]) (cap := m - j) (n := n) (r := r) (b := b) (off := 1 + j) (g := wr.heap.size + 1) (w := W0) (tgt_one W0 wr.heap.size) ⟨hP, Chg.refl _ _⟩ (ws.drop j) rfl (by rw [List.length_drop, hm]) (fun ns W h => qbad_ (hI h).1) (fun ns W h i hi => ?_) (fun ns W h i hi => ?_) (by omega) (fun y hx => hy y (List.mem_of_mem_drop hx)) (by omega) (by omega) 63 (by omega)
  · have e1 : (ws.drop j).take 1 = [ws.getD j []] := by
      rw [List.drop_eq_getElem_cons (by omega), List.getD_eq_getElem?_getD, List.getElem?_eq_getElem (by omega)]
      rfl
    rw [e1, numK, numK] at hq
    refine hq.mono fun e w' h => ?_
    cases hn : numM 63 (ws.getD j []) with
    | none =>
      rw [hn] at h
      obtain ⟨v, ns, rfl, hb, hT'⟩ := h
      exact ⟨v, rfl, hb, (hI hT').2.2.2⟩
    | some k =>
      rw [hn] at h
      obtain ⟨rfl, hT'⟩ := h
      exact ⟨rfl, hT'.1, hI hT'⟩
  · rw [List.length_drop] at hi
    have h1 := hwd (j + i) (by omega)
    have hlt := World.block_lt_of_cell? w1 _ h1
    rw [World.cell?_of_block (w := w1) ((hI h).2.2.2.block b hlt hb), Nat.add_assoc, h1, List.getD_eq_getElem?_getD, List.getD_eq_getElem?_getD, List.getElem?_drop]
    rfl
  · match i, hi with
    | 0, _ => exact (hG.chg h.2 (by omega)).cell 0
set_option maxHeartbeats 8000000 in
set_option maxRecDepth 100000 in
theorem ports_ {w : World} {r n : Nat} {d : RpD} {vl vm vi vp vw : Value} {rest : List UInt8} (h : RqAt w r d vl vm vi vp rest n vw) (hp : PoAt w r vp d.ports) (hd : d.ports = []) (hm : MaxL w) (hL : Laid w) (hl : rest.length ≤ 100000) :
    Calls Tryz.prog 18 #[rdp r] w (StepQ w r vl vm vi n (rdL 5 d rest)) := by
  obtain rfl := hp.2.2 hd
  have HLN := Lib.hid (rdline_ h hm hL hl wPor none (fun m hm => by cases hm))
  have HR := Lib.hid h
  have HLL := Lib.hid hl
  obtain ⟨o, hoo⟩ : ∃ o, o = rdL 5 d rest := ⟨_, rfl⟩
  rw [← hoo]
  have HOO := Lib.hid hoo
  have hwd : bs wPor = ⟨#[112, 111, 114, 116, 115]⟩ := rfl
  rw [hwd] at HLN
  clear h hm hL hl hwd hoo hp hd
  cases ho : lineR wPor none rest with
  | none =>
    rw [ho] at HLN
    have HON : Hid (o = none) := Lib.hid (by rw [HOO.out]; simp only [rdL, ho])
    clear ho
    go_enter Tryz.func18, Tryz.ntmps18
    go_wp2_with fail
    refine HLN.out.mono ?_
    rintro e w1 ⟨v, rfl, hb, hw⟩
    have HF : Hid (StepQ w r vl vm vi n o (.returned v) w1) := Lib.hid (by rw [HON.out]; exact ⟨Chg.of_below hw, v, rfl, hb⟩)
    obtain ⟨x9, rfl⟩ := hb.iface
    clear hb hw
    go_wp2
    go_ret
    exact HF.out
  | some q =>
    obtain ⟨ws, r'⟩ := q
    obtain ⟨hs, hw0, -⟩ := lineR_inv ho
    have hy := line_lens hs (by have := HLL.out; omega)
    have hwl : ws.length ≤ 100000 := by
      have h1 := congrArg List.length hs
      rw [List.length_append] at h1
      have h2 : ws.length ≤ (lineT wPor ws).length := by
        unfold lineT
        rw [List.length_append, List.length_append]
        have : ∀ l : List (List UInt8), l.length ≤ (l.flatMap wordT).length := fun l => by
          induction l with
          | nil => simp
          | cons x l ih =>
            rw [List.flatMap_cons, List.length_append, List.length_cons]
            have e : (wordT x).length = x.length + 1 := rfl
            omega
        have := this ws
        omega
      have := HLL.out
      omega
    obtain ⟨m, hmm⟩ : ∃ m, m = ws.length := ⟨_, rfl⟩
    have hm1 : 1 ≤ m := by rw [hmm]; exact List.length_pos_iff.2 hw0
    have hm9 : m ≤ 100000 := by omega
    rw [ho] at HLN
    have HLR := Lib.hid ho
    have HM := Lib.hid hmm
    have HY := Lib.hid hy
    have HOI : Hid (o = match portsW ws with | some l => some ({ d with ports := l }, r') | none => none) := Lib.hid (by rw [HOO.out]; simp only [rdL, HLR.out]; cases portsW ws <;> rfl)
    clear ho hs hwl hy hw0 hmm
    go_enter Tryz.func18, Tryz.ntmps18
    go_wp2_with fail
    refine HLN.out.mono ?_
    rintro e w1 ⟨b, rfl, hwds, hat, hch, hb1, hb2⟩
    rw [← HM.out] at hat
    have HWD := Lib.hid hwds
    have HAT := Lib.hid hat
    have HCH := Lib.hid hch
    have HBR : Hid (b ≠ r) := Lib.hid (by have := HR.out.lt; omega)
    have HRL : Hid (r < w1.heap.size) := Lib.hid (by have := HR.out.lt; have := hch.size; omega)
    have k14 := hat.words.1
    have q0 := HWD.out 0 (by have := HM.out; omega)
    obtain ⟨y, hy⟩ : ∃ y, y = ws.getD 0 [] := ⟨_, rfl⟩
    rw [← hy] at q0
    unfold strV at q0
    have HYE := Lib.hid hy
    clear hwds hat hch hb1 hb2 hy
    by_cases h45 : ws = [[45]]
    · have hm : m = 1 := by rw [HM.out, h45]; rfl
      subst hm
      have hs1 : ((bs y).toList == [45]) = true := by rw [HYE.out, h45, Lib.toList_data]; rfl
      have HF : Hid (StepQ w r vl vm vi n o (.returned .nilIface) w1) := Lib.hid (by
        rw [HOI.out, portsW, if_pos h45]
        exact ⟨HCH.out, rfl, _, _, HAT.out, ⟨World.ownsRow_nil _ _ _ _, fun k hk => by simp [Value.ownBlock] at hk, fun _ => rfl⟩⟩)
      clear h45
      generalize bs y = sy at *
      go_wp2
      go_ret
      exact HF.out
    · have hcase : (((m : Int) == 1) = true ∧ ((bs y).toList == [45]) = false) ∨ ((m : Int) == 1) = false := by
        by_cases h1 : m = 1
        · refine .inl ⟨by rw [h1]; rfl, ?_⟩
          rw [Lib.toList_data, bs_list, beq_eq_false_iff_ne]
          intro e
          refine h45 ?_
          have hl := HM.out
          match ws, hl with
          | [], hl => simp at hl; omega
          | [x], _ => have := HYE.out; rw [e] at this; simp at this; rw [this]
          | _ :: _ :: _, hl => simp at hl; omega
        · exact .inr (by rw [beq_eq_false_iff_ne]; omega)
      have HOP : Hid (o = match numsM 63 ws with | some l => some ({ d with ports := l }, r') | none => none) := Lib.hid (by rw [HOI.out, portsW, if_neg h45])
      have HP0 : Hid (PInv w1 r d vl vm vi (.slice none 0 0) r' n (.slice (some ⟨b, 1, none⟩) m m) [] w1) := Lib.hid ⟨HAT.out, World.ownsRow_nil _ _ _ _, fun k hk => by simp [Value.ownBlock] at hk, Chg.refl _ _⟩
      clear h45
      generalize bs y = sy at *
      rcases hcase with ⟨hm1e, hs1⟩ | hm1e
      all_goals
        go_wp2_with fail
        go_loopw [32] (fun c wr => ∃ j : Nat, ∃ l vp, j ≤ m ∧ c = .int .i64 j ∧ numsM 63 (ws.take j) = some l ∧ l.length = j ∧ PInv w1 r d vl vm vi vp r' n (.slice (some ⟨b, 1, none⟩) m m) l wr) (fun c _ => m - (intOf c).toNat)
        case atStart => exact ⟨0, [], _, Nat.zero_le _, rfl, rfl, rfl, HP0.out⟩
        case round =>
          obtain ⟨j, l, vp, hj, rfl, hk, hnl, hT⟩ := hrel
          have HK := Lib.hid hk
          have HNL := Lib.hid hnl
          have HT := Lib.hid hT
          clear hk hnl hT
          by_cases hlt : (j : Int) < (m : Int)
          · have k14r : (wr.alloc (.cells #[.int .i64 0] 3)).cell? ⟨r, 14, none⟩ = some (.slice (some ⟨b, 1, none⟩) m m) := (HT.out.below ((Below.refl _ wr).alloc (Nat.le_refl _) _)).1.words.1
            have hjw : j < ws.length := by have := HM.out; omega
            have HPN := Lib.hid (portnum_ HT.out HWD.out HBR.out HM.out (by omega : j < m) HY.out hm9)
            have HTK : Hid (ws.take (j + 1) = ws.take j ++ [ws.getD j []]) := Lib.hid (take_snocG [] hjw)
            have HNO : Hid (numM 63 (ws.getD j []) = none → numsM 63 ws = none) := Lib.hid fun hh => by
              rw [← List.take_append_drop (j + 1) ws]
              refine numsM_none _ _ _ ?_
              rw [HTK.out, numsM_snoc, HK.out, hh]
            clear hjw
            go_wp2_with fail
            refine HPN.out.mono ?_
            rintro e w5 hpn
            cases hk : numM 63 (ws.getD j []) with
            | none =>
              rw [hk] at hpn
              obtain ⟨v, rfl, hv, hc⟩ := hpn
              have HON : Hid (o = none) := Lib.hid (by rw [HOP.out, HNO.out hk])
              have HF : Hid (StepQ w r vl vm vi n o (.returned v) w5) := Lib.hid (by rw [HON.out]; exact ⟨HCH.out.trans hc (fun i hi => .inl hi), v, rfl, hv⟩)
              obtain ⟨x9, rfl⟩ := hv.iface
              clear hv hc hk
              go_wp2
              go_ret
              exact HF.out
            | some k =>
              rw [hk] at hpn
              obtain ⟨rfl, hbk, hpi⟩ := hpn
              have HKK := Lib.hid hk
              have HB5 := Lib.hid hbk
              have HP5 := Lib.hid hpi
              have c5 : w5.cell? ⟨wr.heap.size, 0, none⟩ = some (.int .i64 (k : Int)) := hbk.cell 0
              have c11 : w5.cell? ⟨r, 11, none⟩ = some vp := hpi.1.cell 11
              have hl5 : r < w5.heap.size := hpi.1.lt
              have hl6 : wr.heap.size < w5.heap.size := hbk.lt
              have HPE : Hid (PInv w1 r d vl vm vi vp r' n (.slice (some ⟨b, 1, none⟩) m m) l (w5.drew.alloc (.cells #[.int .i64 (k : Int)] 3))) := Lib.hid (hpi.below ((Below.refl _ w5).drew.alloc (Nat.le_refl _) _))
              clear hk hbk hpi
              go_wp2_with fail
              go_region_law (first
                | (refine step_app rfl (.tmp 52) (.tmp 54) _ rfl 3 (.int .i64 0) 1 8 Tryz.underlying31 infoI rfl (by decide) vp l.length (l.map iv) (by simp [Act.eval]) ?ho w5.heap.size 0 1 1 [.int .i64 (k : Int)] (by simp [Act.eval]) rfl ?hn ?hs ?c1 ?c2 ?_
                   case ho => exact HPE.out.2.1
                   case hn => exact cellN _ _ _ _ (by simp)
                   case hs => exact oneC rfl
                   case c1 => have := HNL.out; unfold maxLen; omega
                   case c2 => have := HNL.out; omega
                   intro v3 wB hpF
                   obtain ⟨g3, cp3, rfl, -, -, -⟩ := hpF.1.some_ (by omega)
                   obtain ⟨hpG, hbF⟩ := HPE.out.more HRL.out (k : Int) hpF
                   have kB11 : wB.cell? ⟨r, 11, none⟩ = some vp := hbF.cell 11
                   have rB11 : wB.frozen? ⟨r, 11, none⟩ = false := hbF.frozen 11
                   have HPG := Lib.hid hpG
                   clear hbF hpF hpG))
              all_goals
                go_wp2_with fail
                go_roundw
                case rel => exact ⟨j + 1, l ++ [(k : Int)], _, by omega, by go_num, by rw [HTK.out, numsM_snoc, HK.out, HKK.out], by rw [List.length_append, HNL.out]; rfl, HPG.out⟩
                case measure => simp [intOf]; omega
          · obtain rfl : j = m := by omega
            have HF : Hid (StepQ w r vl vm vi n o (.returned .nilIface) wr) := Lib.hid (by
              rw [HOP.out]
              have e := HK.out
              rw [HM.out, List.take_length] at e
              rw [e]
              exact ⟨HCH.out.trans HT.out.2.2.2 (fun i hi => .inl hi), rfl, vp, _, HT.out.1, HT.out.2.1, fun q hq => by have := HT.out.2.2.1 q hq; have := HRL.out; omega, fun hh => by have h1 := HNL.out; rw [show l = [] from hh] at h1; simp at h1; omega⟩)
            go_wp2
            go_ret
            exact HF.out
end Go.Proofs.YtamgbfkpblpfiaaGreatDoor
/-
  Package report: what stands behind the first lines, walked.
-/
namespace Go.Proofs.YtamgbfkpblpfiaaGreatDoor
open Go.ChangeShapes Go.WideShapes Go.ChangeAt Go.RowKit
set_option linter.unusedVariables false
set_option linter.unusedSimpArgs false
theorem finT_bad {lat : List Bool} {mems : List CS} {ord : Bool} {ins : List (List Bool)} {rest : List UInt8} {at_ k : Nat} (h : finT lat mems ord ins rest at_ = .bad k) : k ≤ at_ + 1 := by
  unfold finT at h
  split at h
  · split at h
    · split at h
      · split at h <;> cases h
      · injection h with h; omega
    · injection h with h; omega
  · injection h with h; omega
theorem cycF_bad {lat : List Bool} {mems : List CS} {ord : Bool} : ∀ {f : Nat} {ins : List (List Bool)} {rest : List UInt8} {at_ k : Nat}, cycF lat mems ord f ins rest at_ = .bad k → k ≤ at_ + f + 1
  | 0, ins, rest, at_, k, h => by
    rw [cycF] at h
    exact finT_bad h
  | f + 1, ins, rest, at_, k, h => by
    rw [cycF] at h
    split at h
    · split at h
      · split at h
        · have := cycF_bad h; omega
        · injection h with h; omega
      · have := finT_bad h; omega
    · have := finT_bad h; omega
theorem celF_bad {lat : List Bool} {b : Nat} : ∀ {f : Nat} {mems : List CS} {last : Nat} {ord : Bool} {rest : List UInt8} {at_ k : Nat}, celF lat b f mems last ord rest at_ = .bad k → k ≤ at_ + f + rest.length + 1
  | 0, mems, last, ord, rest, at_, k, h => by
    rw [celF] at h
    have := cycF_bad h; omega
  | f + 1, mems, last, ord, rest, at_, k, h => by
    rw [celF] at h
    split at h
    · rename_i line r hc
      have hcl := cutT_len hc
      split at h
      · split at h
        · split at h
          · have := celF_bad h; omega
          · injection h with h; omega
        · injection h with h; omega
      · have := cycF_bad h; omega
    · have := cycF_bad h; omega
theorem parseT_bad {s : List UInt8} {k : Nat} (h : parseT s = .bad k) : k ≤ 4 + 2 * s.length := by
  unfold parseT at h
  split at h
  · rename_i l1 r1 hc1
    have h1 := cutT_len hc1
    split at h
    · split at h
      · rename_i l2 r2 hc2
        have h2 := cutT_len hc2
        split at h
        · split at h
          · have := celF_bad h; omega
          · injection h with h; omega
        · injection h with h; omega
      · injection h with h; omega
    · injection h with h; omega
  · injection h with h; omega
inductive TRes where
  | fault (f p : Nat) | ok (d : RpD)
/-- What is told of what stands behind the first lines. -/
def endT (d : RpD) (s : List UInt8) (n : Nat) : TRes :=
  if d.verdict = 2 then (match parseT s with
    | .bad k => .fault 2 (6 + k)
    | .ill => .fault 14 6
    | .ok t => .ok { d with tr := t })
  else if s = [] then .ok d else .fault 2 n
def TrcQ (w : World) (r : Nat) (vp vw : Value) (s : List UInt8) (n : Nat) (o : TRes) (e : Ending) (w' : World) : Prop := Chg (fun k => k = r) w w' ∧ match o with
  | .fault f p => ∃ v, e = .returned v ∧ Bad w' f p v
  | .ok d => e = .returned .nilIface ∧ ∃ vl vm vi, RqAt w' r d vl vm vi vp s n vw ∧ ∀ W, Chg (fun k => k < w.heap.size) w' W → TrP W d.tr vl vm vi
set_option maxHeartbeats 4000000 in
set_option maxRecDepth 100000 in
theorem rtrace_ {w : World} {r n : Nat} {d : RpD} {vp vw : Value} {s : List UInt8} (h : RqAt w r d (.slice none 0 0) (.slice none 0 0) (.slice none 0 0) vp s n vw) (ht : d.tr = tr0) (hm : MaxL w) (hL : Laid w) (hl : s.length ≤ 50000) :
    Calls Tryz.prog 19 #[rdp r] w (TrcQ w r vp vw s n (endT d s n)) := by
  have c0 : w.cell? ⟨r, 0, none⟩ = some (.int .i64 d.verdict) := h.cell 0
  have c12 := h.rest.1
  have HR := Lib.hid h
  have HBD := Lib.hid (qbad_ h)
  have HTR := Lib.hid ht
  obtain ⟨o, hoo⟩ : ∃ o, o = endT d s n := ⟨_, rfl⟩
  rw [← hoo]
  have HOO := Lib.hid hoo
  clear hoo ht
  by_cases hv : d.verdict = 2
  · have HTP := Lib.hid (trace_ParseV hm hL hl)
    have hv2 : (d.verdict != 2) = false := by rw [hv]; rfl
    have HOV : Hid (o = match parseT s with | .bad k => .fault 2 (6 + k) | .ill => .fault 14 6 | .ok t => .ok { d with tr := t }) := Lib.hid (by rw [HOO.out, endT, if_pos hv])
    have HV := Lib.hid hv
    have HPB : Hid (∀ k, parseT s = .bad k → k ≤ 4 + 2 * 50000) := Lib.hid fun k hk => by have := parseT_bad hk; omega
    clear h hv hm hL hl
    generalize parseT s = p at *
    generalize hb : bs s = sv at *
    go_enter Tryz.func19, Tryz.ntmps19
    go_wp2_with fail
    refine HTP.out.mono ?_
    rintro e w1 ⟨hb1, vl, vm, vi, rfl, hT⟩
    have hT1 := hT w1 (Chg.refl _ _)
    obtain ⟨A1, d1, rfl⟩ := hT1.lat.len
    obtain ⟨A2, d2, rfl, -, -⟩ := hT1.mems.form
    obtain ⟨A3, d3, rfl, -, -⟩ := hT1.ins.form
    obtain ⟨n1, hn1⟩ : ∃ n, n = (resD p).lat.length := ⟨_, rfl⟩
    obtain ⟨n2, hn2⟩ : ∃ n, n = (resD p).mems.length := ⟨_, rfl⟩
    obtain ⟨n3, hn3⟩ : ∃ n, n = (resD p).ins.length := ⟨_, rfl⟩
    obtain ⟨bad, hbad⟩ : ∃ n, n = (resD p).bad := ⟨_, rfl⟩
    obtain ⟨W2, hW2⟩ : ∃ W2, W2 = w1.alloc (.cells #[.slice A1 n1 d1, .slice A2 n2 d2, .slice A3 n3 d3, .int .i64 bad] 30) := ⟨_, rfl⟩
    have hB2 : Below w.heap.size w W2 := by rw [hW2]; exact hb1.alloc hb1.size _
    have hb2 : Below w1.heap.size w1 W2 := by rw [hW2]; exact (Below.refl _ w1).alloc (Nat.le_refl _) _
    have h2 := HR.out.below hB2
    have c4 : W2.cell? ⟨r, 4, none⟩ = some (.slice none 0 0) := h2.cell 4
    have c5 : W2.cell? ⟨r, 5, none⟩ = some (.slice none 0 0) := h2.cell 5
    have c6 : W2.cell? ⟨r, 6, none⟩ = some (.slice none 0 0) := h2.cell 6
    have c7 : W2.cell? ⟨r, 7, none⟩ = some (.int .i64 d.tr.bad) := h2.cell 7
    have f4 := h2.frozen 4
    have f5 := h2.frozen 5
    have f6 := h2.frozen 6
    have f7 := h2.frozen 7
    obtain ⟨W4, hW4⟩ : ∃ W4, W4 = (((W2.setCell ⟨r, 4, none⟩ (.slice A1 n1 d1)).setCell ⟨r, 5, none⟩ (.slice A2 n2 d2)).setCell ⟨r, 6, none⟩ (.slice A3 n3 d3)).setCell ⟨r, 7, none⟩ (.int .i64 bad) := ⟨_, rfl⟩
    have h4 : RqAt W4 r { d with tr := resD p } (.slice A1 n1 d1) (.slice A2 n2 d2) (.slice A3 n3 d3) vp s n vw := by
      have := (((Blk.set_ h2 4 (.slice A1 n1 d1)).set_ 5 (.slice A2 n2 d2)).set_ 6 (.slice A3 n3 d3)).set_ 7 (.int .i64 bad)
      rw [hW4, hbad]
      rw [hbad] at this
      exact this
    have hc4 : Chg (fun k => k = r) W2 W4 := by
      rw [hW4]
      exact ((((Chg.refl (fun k => k = r) W2).setCell (p := ⟨r, 4, none⟩) (.inl rfl) _).setCell (p := ⟨r, 5, none⟩) (.inl rfl) _).setCell (p := ⟨r, 6, none⟩) (.inl rfl) _).setCell (p := ⟨r, 7, none⟩) (.inl rfl) _
    have hrl := HR.out.lt
    have hT4 : ∀ W, Chg (fun k => k < w.heap.size) W4 W → TrP W (resD p) (.slice A1 n1 d1) (.slice A2 n2 d2) (.slice A3 n3 d3) := fun W hW => by
      rw [hn1, hn2, hn3]
      exact hT W (((Chg.of_below (S := fun k => k < w.heap.size) hb2).trans ((hc4.mono (fun i hi => (by rw [hi]; exact hrl : i < w.heap.size))).trans hW (fun i hi => .inl hi)) (fun i hi => .inl hi)))
    have HA4 := Lib.hid h4
    have HT4 := Lib.hid hT4
    have HC4 : Hid (Chg (fun k => k = r) w W4) := Lib.hid ((Chg.of_below hB2).trans hc4 (fun i hi => .inl hi))
    have HW4 := Lib.hid hW4
    rw [← hn1, ← hn2, ← hn3]
    unfold trV
    rw [← hbad]
    rw [hW2] at c4 c5 c6 c7 f4 f5 f6 f7 HW4
    clear hn1 hn2 hn3 hbad hT hT1 hb1 hB2 hb2 h2 hW2 hW4 h4 hc4 hrl hT4
    cases p with
    | bad k =>
      have hk1 : IntKind.i64.wrap (6 + (k : Int)) = 6 + (k : Int) := IntWalk.i64_in _ (by have := HPB.out k rfl; omega)
      have hN := New_B 2 (6 + k) (by decide) W4
      rw [show ((6 + k : Nat) : Int) = 6 + (k : Int) by omega] at hN
      have HN := Lib.hid hN
      clear hN
      have HON : Hid (o = .fault 2 (6 + k)) := Lib.hid HOV.out
      unfold resN resF
      go_wp2_with fail
      rw [← HW4.out]
      refine HN.out.mono ?_
      rintro e w5 ⟨v, rfl, hb, hw⟩
      have HF : Hid (TrcQ w r vp vw s n o (.returned v) w5) := Lib.hid (by rw [HON.out]; exact ⟨HC4.out.trans (Chg.of_below (S := fun k => k = r) hw) (fun i hi => .inl hi), v, rfl, hb⟩)
      obtain ⟨x9, rfl⟩ := hb.iface
      clear hb hw
      go_wp2
      go_ret
      exact HF.out
    | ill =>
      have HN := Lib.hid (New_B 14 6 (by decide) W4)
      have HON : Hid (o = .fault 14 6) := Lib.hid HOV.out
      unfold resN resF
      go_wp2_with fail
      rw [← HW4.out]
      refine HN.out.mono ?_
      rintro e w5 ⟨v, rfl, hb, hw⟩
      have HF : Hid (TrcQ w r vp vw s n o (.returned v) w5) := Lib.hid (by rw [HON.out]; exact ⟨HC4.out.trans (Chg.of_below (S := fun k => k = r) hw) (fun i hi => .inl hi), v, rfl, hb⟩)
      obtain ⟨x9, rfl⟩ := hb.iface
      clear hb hw
      go_wp2
      go_ret
      exact HF.out
    | ok t =>
      have HN := Lib.hid (New_0 6 W4)
      have HON : Hid (o = .ok { d with tr := t }) := Lib.hid HOV.out
      have HF : Hid (TrcQ w r vp vw s n o (.returned .nilIface) W4) := Lib.hid (by rw [HON.out]; exact ⟨HC4.out, rfl, _, _, _, HA4.out, HT4.out⟩)
      unfold resN resF
      go_wp2_with fail
      rw [← HW4.out]
      refine HN.out.mono ?_
      rintro e w5 ⟨rfl, rfl⟩
      go_wp2
      go_ret
      exact HF.out
  · have hv2 : (d.verdict != 2) = true := by rw [bne_iff_ne]; exact hv
    have HOV : Hid (o = if s = [] then .ok d else .fault 2 n) := Lib.hid (by rw [HOO.out, endT, if_neg hv])
    by_cases hs : s = []
    · have HF : Hid (TrcQ w r vp vw s n o (.returned .nilIface) w) := Lib.hid (by
        rw [HOV.out, if_pos hs]
        exact ⟨Chg.refl _ _, rfl, _, _, _, HR.out, fun W _ => by rw [HTR.out]; exact tr0_at W⟩)
      have hs1 : (!(bs s).toList.isEmpty) = false := by rw [hs, Lib.toList_data]; rfl
      have hs2 : (!(bs s).toList == []) = false := by rw [hs, Lib.toList_data]; rfl
      clear h hs hm hL hl
      generalize bs s = sv at *
      go_enter Tryz.func19, Tryz.ntmps19
      go_wp2
      go_ret
      exact HF.out
    · have HON : Hid (o = .fault 2 n) := Lib.hid (by rw [HOV.out, if_neg hs])
      have hs1 : (!(bs s).toList.isEmpty) = true := by rw [Lib.toList_data, bs_list]; simpa using hs
      have hs2 : (!(bs s).toList == []) = true := by rw [Lib.toList_data, bs_list]; simpa using hs
      clear h hs hm hL hl
      generalize bs s = sv at *
      go_enter Tryz.func19, Tryz.ntmps19
      go_wp2_with fail
      refine HBD.out.mono ?_
      rintro e w5 ⟨v, rfl, hb, hw⟩
      have HF : Hid (TrcQ w r vp vw s n o (.returned v) w5) := Lib.hid (by rw [HON.out]; exact ⟨Chg.of_below hw, v, rfl, hb⟩)
      obtain ⟨x9, rfl⟩ := hb.iface
      clear hb hw
      go_wp2
      go_ret
      exact HF.out
end Go.Proofs.YtamgbfkpblpfiaaGreatDoor
