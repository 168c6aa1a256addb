/-
  Netlists: the document's defines, walked.
-/
import Derived.Test.YtlahecdpcpejpaaDoorNetE
import Derived.Test.YtlahecdpcpejpaaDoorNetP
import Derived.Test.YtlahecdpcpejpaaDoorCells
namespace Go.Proofs.YtlahecdpcpejpaaDoor
open Go.ChangeShapes Go.WideShapes Go.ChangeAt Go.RowKit
set_option linter.unusedVariables false
set_option linter.unusedSimpArgs false
attribute [local go_sem ↓] Go.wp_at_zero Go.wp_at_succ
theorem infoB : (Tryd.prog.info? 4).map (fun i => (i.zero, i.size, i.bytes)) = some (some (.bool false), 1, 1) := by kernel_rfl
/-- A fault is told. -/
def RetF (w : World) (f : Int) (e : Ending) (w' : World) : Prop := e = .returned (.int .i64 f) ∧ Below w.heap.size w w'
/-- Which have been seen, as truths. -/
def seenV (sn : List Int) (i : Nat) : Value := .bool (decide ((i : Int) ∈ sn))
theorem seenV_cons (sn : List Int) {x : Int} {k : Nat} (hk : x = k) (i : Nat) : (if i = k then .bool true else seenV sn i) = seenV (x :: sn) i := by
  unfold seenV
  by_cases h : i = k
  · subst h; rw [if_pos rfl, decide_eq_true (by rw [hk]; exact List.mem_cons_self ..)]
  · rw [if_neg h]
    congr 1
    apply decide_eq_decide.2
    rw [List.mem_cons]
    constructor
    · exact .inr
    · rintro (h1 | h1)
      · omega
      · exact h1
theorem drop_cons_D {l : List Int} {k : Nat} (h : k < l.length) : l.drop k = l.getD k 0 :: l.drop (k + 1) := by
  rw [List.drop_eq_getElem_cons h]; simp [List.getD, h]
set_option maxHeartbeats 8000000 in
set_option maxRecDepth 100000 in
theorem r05_defines {w : World} {d : NetD} {vi vl vo vb vc vm va : Value} (h : NetP w d vi vl vo vb vc vm va) (hl : liH d = true) (hm : LiMs d) {V : Nat} (hV : d.vars = V) (hV2 : V ≤ 2000) :
    Calls Tryd.prog 39 #[netV d vi vl vo vb vc vm va] w (RetF w (definesN d.vars (definedN d) [])) := by
  obtain ⟨ans, hans⟩ : ∃ f, f = definesN d.vars (definedN d) [] := ⟨_, rfl⟩
  rw [← hans]
  rw [hV] at hans
  obtain ⟨ai, ci, ni, al, cl, nl, ao, co, no, ab, cb, nb, ac, cc, nc, am, cm, nm, aa, ca, na, rfl, rfl, rfl, rfl, rfl, rfl, rfl, -, -⟩ := h.open_ hl
  obtain ⟨wb, hwb⟩ : ∃ wb, wb = w.alloc (.cells #[.int .i64 d.vars, .slice ai ni ci, .slice al nl cl, .slice ao no co, .slice ab nb cb, .slice ac nc cc, .slice am nm cm, .slice aa na ca] 28) := ⟨_, rfl⟩
  obtain ⟨bx, hbx⟩ : ∃ bx, bx = w.heap.size := ⟨_, rfl⟩
  have HB1 : Hid (Below w.heap.size w wb) := Lib.hid (by rw [hwb]; exact below_new1 w _)
  have HBX : Hid (NBox wb bx d (.slice ai ni ci) (.slice al nl cl) (.slice ao no co) (.slice ab nb cb) (.slice ac nc cc) (.slice am nm cm) (.slice aa na ca)) := Lib.hid (by rw [hwb, hbx]; exact NBox.new w _ _ _ _ _ _ _ _)
  have hd := r05_Defined (h.below HB1.out) hl hm
  unfold netV at hd ⊢
  rw [hV] at hd hwb ⊢
  rw [hwb] at hd
  have HD := Lib.hid hd
  have HW1 := Lib.hid hwb
  have HBE := Lib.hid hbx
  have HA := Lib.hid hans
  have HVV := Lib.hid hV
  have hmk := fun W => run_makeN (P := Tryd.prog) 99 4 (.bool false) 1 1 Tryd.underlying99 infoB .i64 .i64 (V + 1) (V + 1) (Nat.le_refl _) (by omega) (by omega) W
  rw [show ((V + 1 : Nat) : Int) = (V : Int) + 1 by omega] at hmk
  clear h hl hm hwb hbx hans hd hV
  go_enter Tryd.func39, Tryd.ntmps39
  go_wp2_with fail
  refine HD.out.mono ?_
  rintro e w5 ⟨u5, rfl, ho5⟩
  obtain ⟨A5, cc5, rfl, z1, z2⟩ := ho5.form
  rw [← HW1.out] at ho5
  have c0 : w5.cell? ⟨w.heap.size, 0, none⟩ = some (.int .i64 (V : Int)) := by rw [← HBE.out, ← HVV.out]; exact (HBX.out.later ho5.2.1).c0
  have HO5 := Lib.hid ho5
  clear ho5
  go_wp2
  obtain ⟨w6, hw6⟩ : ∃ w6, w6 = w5.alloc (.cells (madeCells #[.bool false] (V + 1)) 4) := ⟨_, rfl⟩
  obtain ⟨g, hg⟩ : ∃ g, g = w5.heap.size := ⟨_, rfl⟩
  have HVB : Hid (VBlk w6 g 4 (V + 1) (seenV [])) := Lib.hid (by rw [hw6, hg]; exact VBlk.made1 w5 4 (.bool false) (V + 1) (fun i _ => by unfold seenV; rw [decide_eq_false (fun h => by cases h)]))
  have HB6 : Hid (Below w5.heap.size w5 w6) := Lib.hid (by rw [hw6]; exact below_new1 w5 _)
  rw [← hw6, ← hg]
  obtain ⟨l, hld⟩ : ∃ l, l = definedN d := ⟨_, rfl⟩
  rw [← hld] at HO5 HA z1 ⊢
  obtain ⟨n, hn⟩ : ∃ n, n = l.length := ⟨_, rfl⟩
  rw [← hn] at z1 ⊢
  have HIN := HO5.out.ints
  replace HIN := Lib.hid HIN
  rw [← hn] at HIN
  have HN := Lib.hid hn
  have HG := Lib.hid hg
  have HB56 := Lib.hid (HB1.out.trans (HO5.out.2.1.mono HB1.out.size))
  unfold maxLen at z2
  have C0 := Lib.hid c0
  clear hw6 hg hld hn hmk c0
  go_loopw [5] (fun i wr => ∃ k : Nat, ∃ sn, k ≤ n ∧ i = .int .i64 k ∧ ans = definesN V (l.drop k) sn ∧ sn.length = k ∧ Defs V sn ∧ VBlk wr g 4 (V + 1) (seenV sn) ∧ Below w5.heap.size w5 wr) (fun i _ => n - (intOf i).toNat)
  case atStart => exact ⟨0, [], Nat.zero_le _, rfl, HA.out, rfl, Defs.nil _, HVB.out, HB6.out⟩
  case round =>
    obtain ⟨k, sn, hk, rfl, hans, hsl, hsn, hvb, hB⟩ := hrel
    have c0 := cell_below C0.out hB
    have HBR := Lib.hid hB
    have HSN := Lib.hid hsn
    have HVR := Lib.hid hvb
    by_cases hlt : (k : Int) < (n : Int)
    · have hkn : k < l.length := by have := HN.out; omega
      obtain ⟨a9, c9, he, -, -, -, h9⟩ := HIN.out
      have hne : l ≠ [] := fun e => by rw [e] at hkn; simp at hkn
      obtain ⟨b, off, rfl, hcs⟩ := h9.resolve_left hne
      injection he with e1 e2 e3
      subst e1
      have q := cell_below (hcs k hkn) hB
      rw [drop_cons_D hkn] at hans
      obtain ⟨x, hx⟩ : ∃ x, x = l.getD k 0 := ⟨_, rfl⟩
      rw [← hx] at q hans
      have HAN := Lib.hid hans
      clear hcs h9 hne hkn e2 e3 hx hans hsn hB
      by_cases hb1 : x < 1
      · have hF : Hid (ans = 5) := Lib.hid (by rw [HAN.out, definesN_bad (.inl hb1)])
        clear hvb
        go_wp2
        go_quiet (fail)
        go_wp2
        repeat rw [Exit.noGoto_ret]
        go_ret
        exact ⟨by rw [hF.out]; rfl, HB56.out.trans ((below_d HBR.out).mono HB56.out.size)⟩
      · by_cases hb2 : (V : Int) < x
        · have hF : Hid (ans = 5) := Lib.hid (by rw [HAN.out, definesN_bad (.inr hb2)])
          have hb1' : 1 ≤ x := by omega
          clear hvb hb1
          go_wp2
          go_quiet (fail)
          go_wp2
          repeat rw [Exit.noGoto_ret]
          go_ret
          exact ⟨by rw [hF.out]; rfl, HB56.out.trans ((below_d HBR.out).mono HB56.out.size)⟩
        · have hno : ¬ (x < 1 ∨ (V : Int) < x) := by omega
          obtain ⟨xn, hxn⟩ : ∃ xn : Nat, x = xn := ⟨x.toNat, by omega⟩
          have hxV : xn < V + 1 := by omega
          have qs := hvb.cell hxV
          have fs := hvb.frozen xn
          have hx1 : 1 ≤ x := by omega
          have hx2 : x ≤ V := by omega
          have HNO := Lib.hid hno
          have HX1 := Lib.hid (And.intro hx1 hx2)
          have HXN := Lib.hid hxn
          unfold seenV at qs
          subst hxn
          clear hvb hb1 hb2 hno
          by_cases hin : (xn : Int) ∈ sn
          · have hF : Hid (ans = 6) := Lib.hid (by rw [HAN.out, definesN_twice HNO.out hin])
            rw [decide_eq_true hin] at qs
            clear hin
            go_wp2
            go_quiet (fail)
            go_wp2
            repeat rw [Exit.noGoto_ret]
            go_ret
            exact ⟨by rw [hF.out]; rfl, HB56.out.trans ((below_d HBR.out).mono HB56.out.size)⟩
          · have HST : Hid (ans = definesN V (l.drop (k + 1)) ((xn : Int) :: sn)) := Lib.hid (by rw [HAN.out, definesN_step HNO.out hin])
            have HSN2 := Lib.hid (HSN.out.cons HX1.out.1 HX1.out.2 hin)
            rw [decide_eq_false hin] at qs
            clear hin
            go_wp2
            go_quiet (fail)
            go_wp2
            go_roundw
            case rel =>
              refine ⟨k + 1, (xn : Int) :: sn, by omega, by go_num, HST.out, by rw [List.length_cons, hsl], HSN2.out, ?_, ?_⟩
              · exact (VBlk.set_ (w := wr.drewN _) HVR.out xn (.bool true)).ext (fun i _ => seenV_cons sn rfl i)
              · exact (below_d HBR.out).setCell (by have := HG.out; simp; omega) _
            case measure => simp [intOf]; omega
    · obtain rfl : k = n := by omega
      have hnil : l.drop k = [] := List.drop_eq_nil_of_le (by have := HN.out; omega)
      rw [hnil, definesN_nil hsn, hsl] at hans
      have HANS := Lib.hid hans
      obtain ⟨wo, rfl⟩ : ∃ wo : World, wo = wr := ⟨_, rfl⟩
      clear hnil hans hsn hvb hB
      go_wp2
      clear c0
      go_loopw [6] (fun i wr => ∃ v : Nat, 1 ≤ v ∧ v ≤ V + 1 ∧ i = .int .i64 v ∧ (∀ j : Nat, 1 ≤ j → j < v → (j : Int) ∈ sn) ∧ wr = wo) (fun i _ => V + 1 - (intOf i).toNat)
      case atStart => exact ⟨1, by omega, by omega, rfl, fun _ _ _ => by omega, rfl⟩
      case round =>
        obtain ⟨v, hv1, hv2, rfl, hall, rfl⟩ := hrel
        have c0 := cell_below C0.out HBR.out
        have HALL := Lib.hid hall
        clear hall
        by_cases hlt2 : (v : Int) ≤ (V : Int)
        · have qs := HVR.out.cell (i := v) (by omega)
          unfold seenV at qs
          by_cases hin : (v : Int) ∈ sn
          · have HIN2 := Lib.hid hin
            rw [decide_eq_true hin] at qs
            clear hin
            go_wp2
            go_roundw
            case rel =>
              refine ⟨v + 1, by omega, by omega, by go_num, fun j h1 h2 => ?_, trivial⟩
              rcases Nat.lt_or_ge j v with h | h
              · exact HALL.out j h1 h
              · rw [show j = v by omega]; exact HIN2.out
            case measure => simp [intOf]; omega
          · have hF : Hid (ans = 7) := Lib.hid (by
              rw [HANS.out, if_neg]
              intro h
              exact hin (HSN.out.all.1 (by rw [hsl]; exact h) v (by omega) (by omega)))
            rw [decide_eq_false hin] at qs
            clear hin
            go_wp2
            repeat rw [Exit.noGoto_ret]
            go_ret
            exact ⟨by rw [hF.out]; rfl, HB56.out.trans (HBR.out.mono HB56.out.size)⟩
        · have hF : Hid (ans = 0) := Lib.hid (by
            rw [HANS.out, if_pos]
            have := HSN.out.all.2 (fun x h1 h2 => by have := HALL.out x.toNat (by omega) (by omega); rwa [Int.toNat_of_nonneg (by omega)] at this)
            rw [hsl] at this; exact this)
          go_wp2
          go_ret
          exact ⟨by rw [hF.out]; rfl, HB56.out.trans (HBR.out.mono HB56.out.size)⟩
end Go.Proofs.YtlahecdpcpejpaaDoor
