/-
  Package report: what a reader's step tells; the depth's line.
-/
import Derived.Test.YtamgbfkpblpfiaaGreatDoorRqB
namespace Go.Proofs.YtamgbfkpblpfiaaGreatDoor
open Go.ChangeShapes Go.WideShapes Go.ChangeAt Go.RowKit
set_option linter.unusedVariables false
set_option linter.unusedSimpArgs false
/-- Fields of the reader as targets of numbers. -/
def TB (W0 : World) (r : Nat) (A : List Nat → Array Value) (ns : List Nat) (W : World) : Prop := Blk W r 46 (A ns) ∧ Chg (fun k => k = r) W0 W
theorem tgt_fields {W0 : World} {r : Nat} {A : List Nat → Array Value} {cs : List Nat} (hA : ∀ ns (x : Nat), ns.length < cs.length → A (ns ++ [x]) = (A ns).setIfInBounds (cs.getD ns.length 0) (.int .i64 (x : Int)))
    (hs : ∀ ns, ns.length < cs.length → ∃ v, (A ns)[cs.getD ns.length 0]? = some v) : Tgt (cs.map fun c => (⟨r, c, none⟩ : Addr)) (TB W0 r A) := by
  have hat : ∀ k, k < cs.length → (cs.map fun c => (⟨r, c, none⟩ : Addr)).getD k a00 = ⟨r, cs.getD k 0, none⟩ := fun k hk => by
    rw [List.getD_eq_getElem?_getD, List.getElem?_map, List.getD_eq_getElem?_getD, List.getElem?_eq_getElem hk]
    rfl
  refine ⟨fun h hb => ⟨h.1.below hb h.1.lt, h.2.trans (Chg.of_below (S := fun k => k = r) hb) (fun i hi => .inl hi)⟩, fun {ns W} x h hn => ?_, fun {ns W} h hn => ?_⟩
  · rw [List.length_map] at hn
    rw [hat _ hn]
    refine ⟨?_, h.2.setCell (p := ⟨r, cs.getD ns.length 0, none⟩) (.inl rfl) _⟩
    rw [hA ns x hn]
    exact h.1.set_ _ _
  · rw [List.length_map] at hn
    rw [hat _ hn]
    obtain ⟨v, hv⟩ := hs ns hn
    exact ⟨⟨v, by rw [h.1.cell, hv]⟩, h.1.frozen _⟩
/-- The ports' list of the call's own. -/
def PoAt (w : World) (r : Nat) (vp : Value) (ps : List Int) : Prop := Row w 3 1 vp ps.length (ps.map iv) ∧ (∀ q, vp.ownBlock = some q → r < q) ∧ (ps = [] → vp = .slice none 0 0)
theorem PoAt.far {w w' : World} {r : Nat} {vp : Value} {ps : List Int} (h : PoAt w r vp ps) (hc : Chg (fun k => k ≤ r) w w') : PoAt w' r vp ps := ⟨h.1.chg hc (fun g hg => by have := h.2.1 g hg; omega), h.2⟩
theorem PoAt.chg {w w' : World} {r : Nat} {vp : Value} {ps : List Int} (h : PoAt w r vp ps) (hc : Chg (fun k => k = r) w w') : PoAt w' r vp ps := h.far (hc.mono fun i hi => by omega)
/-- What a step of the reader leaves. -/
def StepQ (w : World) (r : Nat) (vl vm vi : Value) (n : Nat) (o : Option (RpD × List UInt8)) (e : Ending) (w' : World) : Prop := Chg (fun k => k = r) w w' ∧ match o with
  | some (d', rest') => e = .returned .nilIface ∧ ∃ vp vw, RqAt w' r d' vl vm vi vp rest' n vw ∧ PoAt w' r vp d'.ports
  | none => ∃ v, e = .returned v ∧ Bad w' 2 n v
def depA (d : RpD) (vl vm vi vp : Value) (rest : List UInt8) (n : Nat) (vw : Value) (ns : List Nat) : Array Value := match ns with
  | [] => rqA d vl vm vi vp rest n vw
  | x :: _ => rqA { d with depth := (x : Int) } vl vm vi vp rest n vw
set_option maxHeartbeats 4000000 in
set_option maxRecDepth 100000 in
theorem depth_ {w : World} {r n : Nat} {d : RpD} {vl vm vi vp vw : Value} {rest : List UInt8} (h : RqAt w r d vl vm vi vp rest n vw) (hp : PoAt w r vp d.ports) (hm : MaxL w) (hL : Laid w) (hl : rest.length ≤ 100000) :
    Calls Tryz.prog 14 #[rdp r] w (StepQ w r vl vm vi n (rdL 1 d rest)) := by
  have HLN := Lib.hid (rdline_ h hm hL hl wDep (some 1) (fun m hm => by injection hm with hm; omega))
  have HP := Lib.hid hp
  have HR := Lib.hid h
  have HLL := Lib.hid hl
  obtain ⟨o, hoo⟩ : ∃ o, o = rdL 1 d rest := ⟨_, rfl⟩
  rw [← hoo]
  have HOO := Lib.hid hoo
  have hwd : bs wDep = ⟨#[100, 101, 112, 116, 104]⟩ := rfl
  rw [hwd] at HLN
  clear h hp hm hL hl hwd hoo
  cases ho : lineR wDep (some 1) rest with
  | none =>
    rw [ho] at HLN
    have HON : Hid (o = none) := Lib.hid (by rw [HOO.out]; simp only [rdL, ho])
    clear ho
    go_enter Tryz.func14, Tryz.ntmps14
    go_wp2_with fail
    refine HLN.out.mono ?_
    rintro e w1 ⟨v, rfl, hb, hw⟩
    have HF : Hid (StepQ w r vl vm vi n o (.returned v) w1) := Lib.hid (by rw [HON.out]; exact ⟨Chg.of_below hw, v, rfl, hb⟩)
    obtain ⟨x9, rfl⟩ := hb.iface
    clear hb hw
    go_wp2
    go_ret
    exact HF.out
  | some q =>
    obtain ⟨ws, r'⟩ := q
    obtain ⟨hs, -, h1⟩ := lineR_inv ho
    have hwl : ws.length = 1 := h1 1 rfl
    have hy : ∀ y ∈ ws, y.length ≤ 100000 := fun y hy => by
      have := congrArg List.length hs
      rw [List.length_append] at this
      have h2 : y.length ≤ (lineT wDep ws).length := by
        unfold lineT
        rw [List.length_append, List.length_append]
        have : (wordT y).length ≤ (ws.flatMap wordT).length := by
          obtain ⟨a, b, rfl⟩ := List.append_of_mem hy
          simp only [List.flatMap_append, List.flatMap_cons, List.length_append]
          omega
        have e : (wordT y).length = y.length + 1 := rfl
        omega
      have := HLL.out
      omega
    rw [ho] at HLN
    have HLR := Lib.hid ho
    have HWL := Lib.hid hwl
    have HY := Lib.hid hy
    clear ho hs h1 hwl hy
    go_enter Tryz.func14, Tryz.ntmps14
    go_wp2_with fail
    refine HLN.out.mono ?_
    rintro e w1 ⟨b, rfl, hwds, hat, hch, hb1, hb2⟩
    rw [HWL.out] at hat
    have HWD := Lib.hid hwds
    have HAT := Lib.hid hat
    have HCH := Lib.hid hch
    have HBR : Hid (b ≠ r) := Lib.hid (by have := HR.out.lt; omega)
    have k14 := hat.words.1
    have k14d : w1.drew.cell? ⟨r, 14, none⟩ = some (.slice (some ⟨b, 1, none⟩) 1 1) := k14
    obtain ⟨W0, hW0⟩ : ∃ W0, W0 = (w1.alloc (.cells #[.pointer (some ⟨r, 1, none⟩)] 83)).drew := ⟨_, rfl⟩
    have hB0 : Below w1.heap.size w1 W0 := by rw [hW0]; exact ((Below.refl _ w1).alloc (Nat.le_refl _) _).drew
    have k14e : ((w1.alloc (.cells #[.pointer (some ⟨r, 1, none⟩)] 83)).drew).cell? ⟨r, 14, none⟩ = some (.slice (some ⟨b, 1, none⟩) 1 1) := by rw [← hW0]; exact (hat.below hB0).words.1
    have HB0 := Lib.hid hB0
    have HW0 := Lib.hid hW0
    have HNQ : Hid (Calls Tryz.prog 42 #[rdp r, .slice (some ⟨b, 1, none⟩) 1 1, .int .u64 1099511627776, .slice (some ⟨w1.heap.size, 0, none⟩) 1 1] W0 (NumsP (TB W0 r (depA d vl vm vi vp r' n (.slice (some ⟨b, 1, none⟩) 1 1))) n (numK great (ws.take 1)))) := Lib.hid (by
      refine qnumbers_ (m := 1) (nw := 1) (T := TB W0 r (depA d vl vm vi vp r' n (.slice (some ⟨b, 1, none⟩) 1 1))) (ps := [1].map fun c => (⟨r, c, none⟩ : Addr)) (tgt_fields (cs := [1]) (fun ns x hn => ?_) (fun ns hn => ?_)) ⟨hat.below hB0, Chg.refl _ _⟩ ws rfl HWL.out.symm (fun ns W hT => ?_) (fun ns W hT j hj => ?_) (fun ns W hT j hj => ?_) (Nat.le_refl _) HY.out (by omega) (by omega) 1099511627776 (Nat.le_refl _)
      · match ns, hn with
        | [], _ => rfl
      · match ns, hn with
        | [], _ => exact ⟨_, rfl⟩
      · match ns, hT with
        | [], hT => exact qbad_ (show RqAt W r d vl vm vi vp r' n _ from hT.1)
        | x :: _, hT => exact qbad_ (show RqAt W r { d with depth := (x : Int) } vl vm vi vp r' n _ from hT.1)
      · have h1 := cell_below (HWD.out j hj) hB0
        have h2 := World.block_lt_of_cell? W0 _ h1
        rw [World.cell?_of_block (w := W0) (hT.2.block b h2 HBR.out)]
        exact h1
      · have h1 : W0.cell? ⟨w1.heap.size, j, none⟩ = some (.pointer (some (([1].map fun c => (⟨r, c, none⟩ : Addr)).getD j a00))) := by
          have hB := Blk.new w1 83 #[.pointer (some ⟨r, 1, none⟩)]
          match j, hj with
          | 0, _ => rw [hW0]; exact hB.cell 0
        have h2 := World.block_lt_of_cell? W0 _ h1
        have h3 : w1.heap.size ≠ r := by have := hat.lt; omega
        rw [World.cell?_of_block (w := W0) (hT.2.block w1.heap.size h2 h3)]
        exact h1)
    rw [HW0.out] at HNQ HB0
    clear hwds hat hch hb1 hb2 hB0 hW0
    have hnk : numK great (ws.take 1) = match numM great (ws.getD 0 []) with | some k => some [k] | none => none := by
      have hl := HWL.out
      match ws, hl with
      | [y], _ =>
        show numK great [y] = _
        rw [numK, numK]
        rfl
    rw [hnk] at HNQ
    clear hnk
    cases hk : numM great (ws.getD 0 []) with
    | none =>
      rw [hk] at HNQ
      have HON : Hid (o = none) := Lib.hid (by rw [HOO.out]; simp only [rdL, HLR.out, hk])
      clear hk
      go_wp2_with fail
      go_region_with (go_at_call 42; (with_reducible refine HNQ.out.mono ?_); rintro e w3 ⟨v, ns, rfl, hb, hT⟩; have HF : Hid (StepQ w r vl vm vi n o (.returned v) w3) := Lib.hid (by rw [HON.out]; exact ⟨(HCH.out.trans (Chg.of_below (S := fun k => k = r) HB0.out) (fun i hi => .inl hi)).trans hT.2 (fun i hi => .inl hi), v, rfl, hb⟩); clear hb hT)
      all_goals
        go_wp2
        go_ret
        exact HF.out
    | some k =>
      rw [hk] at HNQ
      have HON : Hid (o = some ({ d with depth := (k : Int) }, r')) := Lib.hid (by rw [HOO.out]; simp only [rdL, HLR.out, hk])
      clear hk
      go_wp2_with fail
      go_region_with (go_at_call 42; (with_reducible refine HNQ.out.mono ?_); rintro e w3 ⟨rfl, hT⟩; have HCC : Hid (Chg (fun k => k = r) w w3) := Lib.hid ((HCH.out.trans (Chg.of_below (S := fun k => k = r) HB0.out) (fun i hi => .inl hi)).trans hT.2 (fun i hi => .inl hi)); have HF : Hid (StepQ w r vl vm vi n o (.returned .nilIface) w3) := Lib.hid (by rw [HON.out]; exact ⟨HCC.out, rfl, vp, _, hT.1, HP.out.chg HCC.out⟩); clear hT)
      all_goals
        go_wp2
        go_ret
        exact HF.out
end Go.Proofs.YtamgbfkpblpfiaaGreatDoor
/-
  Package report: the calls' line, walked.
-/
namespace Go.Proofs.YtamgbfkpblpfiaaGreatDoor
open Go.ChangeShapes Go.WideShapes Go.ChangeAt Go.RowKit
set_option linter.unusedVariables false
set_option linter.unusedSimpArgs false
def calA (d : RpD) (vl vm vi vp : Value) (rest : List UInt8) (n : Nat) (vw : Value) (ns : List Nat) : Array Value := match ns with
  | [] => rqA d vl vm vi vp rest n vw
  | [x] => rqA { d with calls := (x : Int) } vl vm vi vp rest n vw
  | x :: y :: _ => rqA { d with calls := (x : Int), conf := (y : Int) } vl vm vi vp rest n vw
set_option maxHeartbeats 4000000 in
set_option maxRecDepth 100000 in
theorem calls_ {w : World} {r n : Nat} {d : RpD} {vl vm vi vp vw : Value} {rest : List UInt8} (h : RqAt w r d vl vm vi vp rest n vw) (hp : PoAt w r vp d.ports) (hm : MaxL w) (hL : Laid w) (hl : rest.length ≤ 100000) :
    Calls Tryz.prog 16 #[rdp r] w (StepQ w r vl vm vi n (rdL 3 d rest)) := by
  have HLN := Lib.hid (rdline_ h hm hL hl wCal (some 2) (fun m hm => by injection hm with hm; omega))
  have HP := Lib.hid hp
  have HR := Lib.hid h
  have HLL := Lib.hid hl
  obtain ⟨o, hoo⟩ : ∃ o, o = rdL 3 d rest := ⟨_, rfl⟩
  rw [← hoo]
  have HOO := Lib.hid hoo
  have hwd : bs wCal = ⟨#[99, 97, 108, 108, 115]⟩ := rfl
  rw [hwd] at HLN
  clear h hp hm hL hl hwd hoo
  cases ho : lineR wCal (some 2) rest with
  | none =>
    rw [ho] at HLN
    have HON : Hid (o = none) := Lib.hid (by rw [HOO.out]; simp only [rdL, ho])
    clear ho
    go_enter Tryz.func16, Tryz.ntmps16
    go_wp2_with fail
    refine HLN.out.mono ?_
    rintro e w1 ⟨v, rfl, hb, hw⟩
    have HF : Hid (StepQ w r vl vm vi n o (.returned v) w1) := Lib.hid (by rw [HON.out]; exact ⟨Chg.of_below hw, v, rfl, hb⟩)
    obtain ⟨x9, rfl⟩ := hb.iface
    clear hb hw
    go_wp2
    go_ret
    exact HF.out
  | some q =>
    obtain ⟨ws, r'⟩ := q
    obtain ⟨hs, -, h1⟩ := lineR_inv ho
    have hwl : ws.length = 2 := h1 2 rfl
    have hy : ∀ y ∈ ws, y.length ≤ 100000 := fun y hy => by
      have := congrArg List.length hs
      rw [List.length_append] at this
      have h2 : y.length ≤ (lineT wCal ws).length := by
        unfold lineT
        rw [List.length_append, List.length_append]
        have : (wordT y).length ≤ (ws.flatMap wordT).length := by
          obtain ⟨a, b, rfl⟩ := List.append_of_mem hy
          simp only [List.flatMap_append, List.flatMap_cons, List.length_append]
          omega
        have e : (wordT y).length = y.length + 1 := rfl
        omega
      have := HLL.out
      omega
    rw [ho] at HLN
    have HLR := Lib.hid ho
    have HWL := Lib.hid hwl
    have HY := Lib.hid hy
    clear ho hs h1 hwl hy
    go_enter Tryz.func16, Tryz.ntmps16
    go_wp2_with fail
    refine HLN.out.mono ?_
    rintro e w1 ⟨b, rfl, hwds, hat, hch, hb1, hb2⟩
    rw [HWL.out] at hat
    have HWD := Lib.hid hwds
    have HAT := Lib.hid hat
    have HCH := Lib.hid hch
    have HBR : Hid (b ≠ r) := Lib.hid (by have := HR.out.lt; omega)
    have k14 := hat.words.1
    have k14d : w1.drew.cell? ⟨r, 14, none⟩ = some (.slice (some ⟨b, 1, none⟩) 2 2) := k14
    obtain ⟨W0, hW0⟩ : ∃ W0, W0 = (w1.alloc (.cells #[.pointer (some ⟨r, 8, none⟩), .pointer (some ⟨r, 9, none⟩)] 83)).drew := ⟨_, rfl⟩
    have hB0 : Below w1.heap.size w1 W0 := by rw [hW0]; exact ((Below.refl _ w1).alloc (Nat.le_refl _) _).drew
    have k14e : ((w1.alloc (.cells #[.pointer (some ⟨r, 8, none⟩), .pointer (some ⟨r, 9, none⟩)] 83)).drew).cell? ⟨r, 14, none⟩ = some (.slice (some ⟨b, 1, none⟩) 2 2) := by rw [← hW0]; exact (hat.below hB0).words.1
    have HB0 := Lib.hid hB0
    have HW0 := Lib.hid hW0
    have HNQ : Hid (Calls Tryz.prog 42 #[rdp r, .slice (some ⟨b, 1, none⟩) 2 2, .int .u64 1099511627776, .slice (some ⟨w1.heap.size, 0, none⟩) 2 2] W0 (NumsP (TB W0 r (calA d vl vm vi vp r' n (.slice (some ⟨b, 1, none⟩) 2 2))) n (numK great (ws.take 2)))) := Lib.hid (by
      refine qnumbers_ (m := 2) (nw := 2) (T := TB W0 r (calA d vl vm vi vp r' n (.slice (some ⟨b, 1, none⟩) 2 2))) (ps := [8, 9].map fun c => (⟨r, c, none⟩ : Addr)) (tgt_fields (cs := [8, 9]) (fun ns x hn => ?_) (fun ns hn => ?_)) ⟨hat.below hB0, Chg.refl _ _⟩ ws rfl HWL.out.symm (fun ns W hT => ?_) (fun ns W hT j hj => ?_) (fun ns W hT j hj => ?_) (Nat.le_refl _) HY.out (by omega) (by omega) 1099511627776 (Nat.le_refl _)
      · match ns, hn with
        | [], _ => rfl
        | [_], _ => rfl
      · match ns, hn with
        | [], _ => exact ⟨_, rfl⟩
        | [_], _ => exact ⟨_, rfl⟩
      · match ns, hT with
        | [], hT => exact qbad_ (show RqAt W r d vl vm vi vp r' n _ from hT.1)
        | [x], hT => exact qbad_ (show RqAt W r { d with calls := (x : Int) } vl vm vi vp r' n _ from hT.1)
        | x :: y :: _, hT => exact qbad_ (show RqAt W r { d with calls := (x : Int), conf := (y : Int) } vl vm vi vp r' n _ from hT.1)
      · have h1 := cell_below (HWD.out j hj) hB0
        have h2 := World.block_lt_of_cell? W0 _ h1
        rw [World.cell?_of_block (w := W0) (hT.2.block b h2 HBR.out)]
        exact h1
      · have h1 : W0.cell? ⟨w1.heap.size, j, none⟩ = some (.pointer (some (([8, 9].map fun c => (⟨r, c, none⟩ : Addr)).getD j a00))) := by
          have hB := Blk.new w1 83 #[.pointer (some ⟨r, 8, none⟩), .pointer (some ⟨r, 9, none⟩)]
          match j, hj with
          | 0, _ => rw [hW0]; exact hB.cell 0
          | 1, _ => rw [hW0]; exact hB.cell 1
        have h2 := World.block_lt_of_cell? W0 _ h1
        have h3 : w1.heap.size ≠ r := by have := hat.lt; omega
        rw [World.cell?_of_block (w := W0) (hT.2.block w1.heap.size h2 h3)]
        exact h1)
    rw [HW0.out] at HNQ HB0
    clear hwds hat hch hb1 hb2 hB0 hW0
    have hnk : numK great (ws.take 2) = match numM great (ws.getD 0 []) with | some k => (match numM great (ws.getD 1 []) with | some l => some [k, l] | none => none) | none => none := by
      have hl := HWL.out
      match ws, hl with
      | [y, z], _ =>
        show numK great [y, z] = _
        rw [numK, numK, numK]
        show _ = match numM great y with | some k => (match numM great z with | some l => some [k, l] | none => none) | none => none
        cases numM great y <;> cases numM great z <;> rfl
    rw [hnk] at HNQ
    clear hnk
    cases hk : numM great (ws.getD 0 []) with
    | none =>
      rw [hk] at HNQ
      have HON : Hid (o = none) := Lib.hid (by rw [HOO.out]; simp only [rdL, HLR.out, hk])
      clear hk
      go_wp2_with fail
      go_region_with (go_at_call 42; (with_reducible refine HNQ.out.mono ?_); rintro e w3 ⟨v, ns, rfl, hb, hT⟩; have HF : Hid (StepQ w r vl vm vi n o (.returned v) w3) := Lib.hid (by rw [HON.out]; exact ⟨(HCH.out.trans (Chg.of_below (S := fun k => k = r) HB0.out) (fun i hi => .inl hi)).trans hT.2 (fun i hi => .inl hi), v, rfl, hb⟩); clear hb hT)
      all_goals
        go_wp2
        go_ret
        exact HF.out
    | some k =>
      cases hk2 : numM great (ws.getD 1 []) with
      | none =>
        rw [hk, hk2] at HNQ
        have HON : Hid (o = none) := Lib.hid (by rw [HOO.out]; simp only [rdL, HLR.out, hk, hk2])
        clear hk hk2
        go_wp2_with fail
        go_region_with (go_at_call 42; (with_reducible refine HNQ.out.mono ?_); rintro e w3 ⟨v, ns, rfl, hb, hT⟩; have HF : Hid (StepQ w r vl vm vi n o (.returned v) w3) := Lib.hid (by rw [HON.out]; exact ⟨(HCH.out.trans (Chg.of_below (S := fun k => k = r) HB0.out) (fun i hi => .inl hi)).trans hT.2 (fun i hi => .inl hi), v, rfl, hb⟩); clear hb hT)
        all_goals
          go_wp2
          go_ret
          exact HF.out
      | some l =>
        rw [hk, hk2] at HNQ
        have HON : Hid (o = some ({ d with calls := (k : Int), conf := (l : Int) }, r')) := Lib.hid (by rw [HOO.out]; simp only [rdL, HLR.out, hk, hk2])
        clear hk hk2
        go_wp2_with fail
        go_region_with (go_at_call 42; (with_reducible refine HNQ.out.mono ?_); rintro e w3 ⟨rfl, hT⟩; have HCC : Hid (Chg (fun k => k = r) w w3) := Lib.hid ((HCH.out.trans (Chg.of_below (S := fun k => k = r) HB0.out) (fun i hi => .inl hi)).trans hT.2 (fun i hi => .inl hi)); have HF : Hid (StepQ w r vl vm vi n o (.returned .nilIface) w3) := Lib.hid (by rw [HON.out]; exact ⟨HCC.out, rfl, vp, _, hT.1, HP.out.chg HCC.out⟩); clear hT)
        all_goals
          go_wp2
          go_ret
          exact HF.out
end Go.Proofs.YtamgbfkpblpfiaaGreatDoor
/-
  Package report: whether all was spent, walked.
-/
namespace Go.Proofs.YtamgbfkpblpfiaaGreatDoor
open Go.ChangeShapes Go.WideShapes Go.ChangeAt Go.RowKit
set_option linter.unusedVariables false
set_option linter.unusedSimpArgs false
set_option maxHeartbeats 4000000 in
set_option maxRecDepth 100000 in
theorem spent_ {w : World} {r n : Nat} {d : RpD} {vl vm vi vp vw : Value} {rest : List UInt8} (h : RqAt w r d vl vm vi vp rest n vw) (hp : PoAt w r vp d.ports) (hm : MaxL w) (hL : Laid w) (hl : rest.length ≤ 100000) :
    Calls Tryz.prog 17 #[rdp r] w (StepQ w r vl vm vi n (rdL 4 d rest)) := by
  have HLN := Lib.hid (rdline_ h hm hL hl wSpe (some 1) (fun m hm => by injection hm with hm; omega))
  have HP := Lib.hid hp
  have HR := Lib.hid h
  have HLL := Lib.hid hl
  obtain ⟨o, hoo⟩ : ∃ o, o = rdL 4 d rest := ⟨_, rfl⟩
  rw [← hoo]
  have HOO := Lib.hid hoo
  have hwd : bs wSpe = ⟨#[115, 112, 101, 110, 116]⟩ := rfl
  rw [hwd] at HLN
  clear h hp hm hL hl hwd hoo
  cases ho : lineR wSpe (some 1) rest with
  | none =>
    rw [ho] at HLN
    have HON : Hid (o = none) := Lib.hid (by rw [HOO.out]; simp only [rdL, ho])
    clear ho
    go_enter Tryz.func17, Tryz.ntmps17
    go_wp2_with fail
    refine HLN.out.mono ?_
    rintro e w1 ⟨v, rfl, hb, hw⟩
    have HF : Hid (StepQ w r vl vm vi n o (.returned v) w1) := Lib.hid (by rw [HON.out]; exact ⟨Chg.of_below hw, v, rfl, hb⟩)
    obtain ⟨x9, rfl⟩ := hb.iface
    clear hb hw
    go_wp2
    go_ret
    exact HF.out
  | some q =>
    obtain ⟨ws, r'⟩ := q
    obtain ⟨hs, -, h1⟩ := lineR_inv ho
    have hwl : ws.length = 1 := h1 1 rfl
    have hy : ∀ y ∈ ws, y.length ≤ 100000 := fun y hy => by
      have := congrArg List.length hs
      rw [List.length_append] at this
      have h2 : y.length ≤ (lineT wSpe ws).length := by
        unfold lineT
        rw [List.length_append, List.length_append]
        have : (wordT y).length ≤ (ws.flatMap wordT).length := by
          obtain ⟨a, b, rfl⟩ := List.append_of_mem hy
          simp only [List.flatMap_append, List.flatMap_cons, List.length_append]
          omega
        have e : (wordT y).length = y.length + 1 := rfl
        omega
      have := HLL.out
      omega
    rw [ho] at HLN
    have HLR := Lib.hid ho
    have HWL := Lib.hid hwl
    have HY := Lib.hid hy
    clear ho hs h1 hwl hy
    go_enter Tryz.func17, Tryz.ntmps17
    go_wp2_with fail
    refine HLN.out.mono ?_
    rintro e w1 ⟨b, rfl, hwds, hat, hch, hb1, hb2⟩
    rw [HWL.out] at hat
    have HWD := Lib.hid hwds
    have HAT := Lib.hid hat
    have HCH := Lib.hid hch
    have HBR : Hid (b ≠ r) := Lib.hid (by have := HR.out.lt; omega)
    have k14 := hat.words.1
    have q0 := HWD.out 0 (by have := HWL.out; omega)
    have c10 : w1.cell? ⟨r, 10, none⟩ = some (.bool d.spent) := hat.cell 10
    have f10 := hat.frozen 10
    have HBD := Lib.hid (qbad_ hat)
    have HCY : Hid (Chg (fun k => k = r) w (w1.setCell ⟨r, 10, none⟩ (.bool true))) := Lib.hid (hch.setCell (p := ⟨r, 10, none⟩) (.inl rfl) _)
    have HAY : Hid (RqAt (w1.setCell ⟨r, 10, none⟩ (.bool true)) r { d with spent := true } vl vm vi vp r' n (.slice (some ⟨b, 1, none⟩) 1 1)) := Lib.hid (hat.set_ 10 (.bool true))
    obtain ⟨y, hy⟩ : ∃ y, y = ws.getD 0 [] := ⟨_, rfl⟩
    rw [← hy] at q0
    unfold strV at q0
    have HYE := Lib.hid hy
    clear hwds hat hch hb1 hb2 hy
    by_cases h1 : y = wYes
    · have HON : Hid (o = some ({ d with spent := true }, r')) := Lib.hid (by rw [HOO.out]; simp only [rdL, HLR.out]; rw [← HYE.out, if_pos h1])
      have HF : Hid (StepQ w r vl vm vi n o (.returned .nilIface) (w1.setCell ⟨r, 10, none⟩ (.bool true))) := Lib.hid (by rw [HON.out]; exact ⟨HCY.out, rfl, vp, _, HAY.out, HP.out.chg HCY.out⟩)
      have hs1 : ((bs y).toList == [121, 101, 115]) = true := by rw [h1, Lib.toList_data]; rfl
      clear h1
      generalize bs y = sy at *
      go_wp2
      go_ret
      exact HF.out
    · have hs1 : ((bs y).toList == [121, 101, 115]) = false := by rw [Lib.toList_data, bs_list, beq_eq_false_iff_ne]; exact h1
      by_cases h2 : y = wNo
      · have HON : Hid (o = some (d, r')) := Lib.hid (by rw [HOO.out]; simp only [rdL, HLR.out]; rw [← HYE.out, if_neg h1, if_pos h2])
        have HF : Hid (StepQ w r vl vm vi n o (.returned .nilIface) w1) := Lib.hid (by rw [HON.out]; exact ⟨HCH.out, rfl, vp, _, HAT.out, HP.out.chg HCH.out⟩)
        have hs2 : ((bs y).toList == [110, 111]) = true := by rw [h2, Lib.toList_data]; rfl
        clear h1 h2
        generalize bs y = sy at *
        go_wp2
        go_ret
        exact HF.out
      · have HON : Hid (o = none) := Lib.hid (by rw [HOO.out]; simp only [rdL, HLR.out]; rw [← HYE.out, if_neg h1, if_neg h2])
        have hs2 : ((bs y).toList == [110, 111]) = false := by rw [Lib.toList_data, bs_list, beq_eq_false_iff_ne]; exact h2
        clear h1 h2
        generalize bs y = sy at *
        go_wp2_with fail
        refine HBD.out.mono ?_
        rintro e w3 ⟨v, rfl, hv, hw⟩
        have HF : Hid (StepQ w r vl vm vi n o (.returned v) w3) := Lib.hid (by rw [HON.out]; exact ⟨HCH.out.trans (Chg.of_below (S := fun k => k = r) hw) (fun i hi => .inl hi), v, rfl, hv⟩)
        obtain ⟨x9, rfl⟩ := hv.iface
        clear hv hw
        go_wp2
        go_ret
        exact HF.out
end Go.Proofs.YtamgbfkpblpfiaaGreatDoor
