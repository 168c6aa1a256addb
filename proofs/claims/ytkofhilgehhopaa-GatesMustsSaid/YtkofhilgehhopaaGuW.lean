/-
  Package gates: Some, Equal, Must, walked for any literals that may be.
-/
import Derived.Test.YtkofhilgehhopaaGuV
import Derived.Test.YtkofhilgehhopaaGuH
import Derived.Test.YtkofhilgehhopaaGtG
import Derived.IntWalk
namespace Go.Proofs.Ytkofhilgehhopaa
open Go Go.ChangeShapes Go.WideShapes Go.ChangeAt Go.RowKit Go.Maps
set_option linter.unusedVariables false
set_option linter.unusedSimpArgs false
attribute [local go_sem ↓] Go.wp_at_zero Go.wp_at_succ
theorem negW_ok {n : Nat} (hn : n ≤ 1000000) {c : List Int} (hc : ∀ x ∈ c, okL n x) : negW c = negs c := by
  unfold negW negs
  apply List.map_congr_left
  intro x hx
  have := hc x hx
  unfold okL at this
  unfold wrap64; omega
section
variable {fp : Nat → Prop} {B : Nat} {w : World} {g f m : Nat} {S : GS}
set_option maxRecDepth 100000 in
theorem Some_ (h : GMem fp B w g f m S) (hB : B ≤ w.heap.size) (hr : Room S) {F : Nat → Prop} (hi : GI S F) {v : Value} {l : List Int} (hv : Ints w v l) (hl : ∀ x ∈ l, okL S.n x) (hlen : l.length ≤ 100) :
    Calls Try.prog 18 #[.pointer (some ⟨g, 0, none⟩), v] w fun e w' => e = .returned (.int .i64 (someS l S).1) ∧ GLeft fp B w g f m (someS l S).2 w' := by
  have hn := hr.n
  have hng := negated_ hv (by omega)
  rw [negW_ok (by omega) hl] at hng
  have HNG := Lib.hid hng
  have HA : Hid (∀ W u, Below w.heap.size w W → Ints W u (negs l) → Calls Try.prog 13 #[.pointer (some ⟨g, 0, none⟩), u] W fun e w' => e = .returned (.int .i64 (allS (negs l) S).1) ∧ GLeft fp B w g f m (allS (negs l) S).2 w') := Lib.hid fun W u hW hu =>
    (All_ (h.below hW) (Nat.le_trans hB hW.size) hr hu (negs_ok hl) (by rw [negs_len]; exact hlen)).mono fun e w' ⟨q1, q2⟩ => ⟨q1, GLeft.pre hW hB q2⟩
  have hres := all_res hi (negs_ok hl) (by omega)
  have hok := hres.ok
  have hnb := hres.nb
  rw [negs_len] at hnb
  unfold someS
  obtain ⟨r, hr'⟩ : ∃ r, r = (allS (negs l) S).1 := ⟨_, rfl⟩
  rw [← hr'] at HA hok ⊢
  have r0 : -100000 ≤ r := by have := hok.2.1; omega
  have r1 : r ≤ 100000 := by have := hok.2.2; omega
  obtain ⟨a, cap, rfl, -⟩ := hv
  generalize l.length = k at *
  clear h hB hr hi hl hlen hn hng hres hok hnb hr'
  go_enter Try.func18, Try.ntmps18
  go_wp2_with fail
  refine HNG.out.mono ?_
  rintro e w1 ⟨u, rfl, hO⟩
  have HX := Lib.hid (HA.out w1 u hO.2.1 hO.ints)
  clear hO
  go_wp2_with fail
  refine HX.out.mono ?_
  rintro e w2 ⟨rfl, hL⟩
  have HL := Lib.hid hL
  clear hL
  go_wp2
  go_ret
  exact ⟨rfl, HL.out⟩
set_option maxRecDepth 100000 in
theorem Must_ (h : GMem fp B w g f m S) (hB : B ≤ w.heap.size) (hr : Room S) {v : Value} {l : List Int} (hv : Ints w v l) (hl : ∀ x ∈ l, okL S.n x) (hlen : l.length ≤ 100) :
    Calls Try.prog 6 #[.pointer (some ⟨g, 0, none⟩), v] w fun e w' => e = .returned (.tuple #[]) ∧ GLeft fp B w g f m ⟨S.n, S.cl ++ [l], S.tab⟩ w' := by
  obtain ⟨D, hrep, hG⟩ := h
  have hf := fine_ hG hv
  rw [show l.any (badG (S.n : Int)) = false by
    rw [← Bool.not_eq_true, List.any_eq_true]
    rintro ⟨x, hx, e⟩
    rw [badG_ok (by have := hr.n; omega) (hl x hx)] at e; cases e] at hf
  have HF := Lib.hid hf
  have hn := hr.n
  have hcl := hr.cl
  have HA : Hid (∀ W, Below w.heap.size w W → Calls Try.prog 29 #[.pointer (some ⟨f, 0, none⟩), v] W fun e w' => e = .returned (.int .i64 0) ∧ GLeft fp B w g f m ⟨S.n, S.cl ++ [l], S.tab⟩ w') := Lib.hid fun W hW => by
    have hG' := hG.below hW
    refine (Add_yes hG'.fo (Nat.le_trans hB hW.size) (by omega) (by omega) (hv.below hW) (rightB_ok hl) (by omega) (by omega)).mono ?_
    rintro e w' ⟨rfl, fp', hF, hc, hs, hb⟩
    exact ⟨rfl, D, hrep, GSt.pre hW hB ⟨fp', hG'.form hF hc hs, hc.mono (fun _ e => .inl e), hs, hb⟩⟩
  obtain ⟨c0, c1, c2⟩ := hG.cells
  have HG := Lib.hid hG
  obtain ⟨a, cap, rfl, -⟩ := hv
  generalize l.length = k at *
  clear hrep hf hB hr hl hlen hn hcl c0 c1 c2 hG
  go_enter Try.func6, Try.ntmps6
  go_wp2_with fail
  refine HF.out.mono ?_
  rintro e w1 ⟨rfl, hb⟩
  obtain ⟨c0, c1, c2⟩ := (HG.out.below hb).cells
  have HX := Lib.hid (HA.out w1 hb)
  clear hb c1 c2
  go_wp2_with fail
  refine HX.out.mono ?_
  rintro e w2 ⟨rfl, hL⟩
  have HL := Lib.hid hL
  clear hL c0
  go_wp2
  refine bodyPost_end (v := .tuple #[]) (by first | exact results_none rfl _ _ _ | rfl | kernel_rfl) (by rfl) ?_
  exact ⟨rfl, HL.out⟩
def ptok (n : Nat) (ps : List (Int × Int)) : Prop := ∀ p ∈ ps, okL n p.1 ∧ okL n p.2
/-- Equal on the way. -/
def EqR (fp : Nat → Prop) (B : Nat) (w : World) (g f m : Nat) (S : GS) (ps : List (Int × Int)) (k : Nat) (so : Value) (wr : World) : Prop :=
  ∃ fp' D, Rep D (xorsS (ps.take k) S).2.tab ∧ GAt fp' B wr g f m ((xorsS (ps.take k) S).2.n : Int) (xorsS (ps.take k) S).2.cl D ∧ Chg (fun x => fp x ∨ x = m) w wr ∧ (∀ x, fp' x → fp x ∨ w.heap.size ≤ x) ∧ Below B w wr ∧ RowG fp' wr m so (xorsS (ps.take k) S).1 ∧ ∀ b, so.ownBlock = some b → w.heap.size ≤ b
set_option maxHeartbeats 4000000 in
set_option maxRecDepth 100000 in
theorem Equal_ (h : GMem fp B w g f m S) (hB : B ≤ w.heap.size) (hr : S.n ≤ 50000 ∧ S.cl.length ≤ 90000 ∧ S.tab.length ≤ 900000) {F : Nat → Prop} (hi : GI S F) {a b : Option Addr} {ca cb : Nat} {ps : List (Int × Int)} (hva : Ints w (.slice a ps.length ca) (ps.map (·.1))) (hvb : Ints w (.slice b ps.length cb) (ps.map (·.2))) (hl : ptok S.n ps) (hlen : ps.length ≤ 50)
    (hfa : ∀ x, a = some x → x.block < w.heap.size ∧ ¬ fp x.block ∧ x.block ≠ m) (hfb : ∀ x, b = some x → x.block < w.heap.size ∧ ¬ fp x.block ∧ x.block ≠ m) :
    Calls Try.prog 14 #[.pointer (some ⟨g, 0, none⟩), .slice a ps.length ca, .slice b ps.length cb] w fun e w' => e = .returned (.int .i64 (equalS ps S).1) ∧ GLeft fp B w g f m (equalS ps S).2 w' := by
  have h0 := h
  obtain ⟨D, hrep, hG⟩ := h
  have hfine : ∀ (W : World) (v : Value) (l : List Int), Below w.heap.size w W → Ints W v l → (∀ x ∈ l, okL S.n x) → Calls Try.prog 28 #[.pointer (some ⟨g, 0, none⟩), v] W fun e w' => e = .returned (.bool true) ∧ Below W.heap.size W w' := fun W v l hW hu hl' => by
    have hf := fine_ (hG.below hW) hu
    rw [show l.any (badG (S.n : Int)) = false by
      rw [← Bool.not_eq_true, List.any_eq_true]
      rintro ⟨x, hx, e⟩
      rw [badG_ok (by have := hr.1; omega) (hl' x hx)] at e; cases e] at hf
    exact hf
  have HF1 := Lib.hid (hfine w _ _ (Below.refl _ _) hva (fun x hx => by
    obtain ⟨p, hp, rfl⟩ := List.mem_map.1 hx
    exact (hl p hp).1))
  have HF2 : Hid (∀ W, Below w.heap.size w W → Calls Try.prog 28 #[.pointer (some ⟨g, 0, none⟩), .slice b ps.length cb] W fun e w' => e = .returned (.bool true) ∧ Below W.heap.size W w') := Lib.hid fun W hW => hfine W _ _ hW (hvb.below hW) (fun x hx => by
    obtain ⟨p, hp, rfl⟩ := List.mem_map.1 hx
    exact (hl p hp).2)
  have HXR : Hid (∀ k, k ≤ ps.length → XsS S F (ps.take k)) := Lib.hid fun k hk => xors_res (ps.take k) hi (fun p hp => hl p (List.mem_of_mem_take hp))
  have HVA := Lib.hid hva
  have HVB := Lib.hid hvb
  have HFA := Lib.hid hfa
  have HFB := Lib.hid hfb
  have HRM := Lib.hid hr
  have HL := Lib.hid hl
  have HB := Lib.hid hB
  have H0 := Lib.hid h0
  have HG := Lib.hid hG
  obtain ⟨n, hn⟩ : ∃ n, n = ps.length := ⟨_, rfl⟩
  rw [← hn] at HF1 HF2 hlen HVA HVB ⊢
  have HN := Lib.hid hn
  have hn9 : (n : Int) ≤ 50 := by omega
  clear h0 hrep hG hfine hva hvb hfa hfb hr hl hB hi hn hlen
  go_enter Try.func14, Try.ntmps14
  go_wp2_with fail
  refine HF1.out.mono ?_
  rintro e w1 ⟨rfl, hb1⟩
  have HX := Lib.hid (HF2.out w1 hb1)
  have HB1 := Lib.hid hb1
  clear hb1
  go_wp2_with fail
  refine HX.out.mono ?_
  rintro e w2 ⟨rfl, hb2⟩
  have HB2 := Lib.hid (HB1.out.trans (hb2.mono HB1.out.size))
  clear hb2
  go_wp2_with fail
  go_loopw [7, 28] (fun so i wr => ∃ k : Nat, k ≤ n ∧ i = .int .i64 (k : Nat) ∧ EqR fp B w g f m S ps k so wr) (fun _ i _ => n - (intOf i).toNat)
  case atStart =>
    refine ⟨0, Nat.zero_le _, rfl, ?_⟩
    obtain ⟨D, hrep, hG⟩ := H0.out
    have hb := HB2.out
    exact ⟨fp, D, hrep, hG.below hb, (Chg.of_below (S := fun _ => False) hb).mono (fun _ e => e.elim), fun x e => .inl e, hb.mono HB.out, ⟨World.ownsRow_nil _ _ _ _, fun b hb => by simp [Value.ownBlock] at hb⟩, fun b hb => by simp [Value.ownBlock] at hb⟩
  case round =>
    obtain ⟨k, hk, rfl, hE⟩ := hrel
    by_cases hlt : (k : Int) < (n : Int)
    · have hkn : k < ps.length := by have := HN.out; omega
      obtain ⟨fp1, D1, hrep, hG, hch, hfp, hbl, hrs, hbo⟩ := hE
      have hxs := HXR.out k (by omega)
      have hlp := HL.out (ps.getD k (0, 0)) (by simp [List.getD, hkn])
      have htk : ps.take (k + 1) = ps.take k ++ [ps.getD k (0, 0)] := by
        rw [List.take_add_one, List.getElem?_eq_getElem hkn]; simp [List.getD, hkn]
      obtain ⟨x, hx⟩ : ∃ x, x = (ps.getD k (0, 0)).1 := ⟨_, rfl⟩
      obtain ⟨y, hy⟩ : ∃ y, y = (ps.getD k (0, 0)).2 := ⟨_, rfl⟩
      have hsn : xorsS (ps.take (k + 1)) S = ((xorsS (ps.take k) S).1 ++ [-(xorS x y (xorsS (ps.take k) S).2).1], (xorS x y (xorsS (ps.take k) S).2).2) := by rw [htk, xorsS_snoc, hx, hy]
      have hox : okL (xorsS (ps.take k) S).2.n x := by rw [hx]; exact hlp.1.mono hxs.ext.n
      have hoy : okL (xorsS (ps.take k) S).2.n y := by rw [hy]; exact hlp.2.mono hxs.ext.n
      have hnb := hxs.nb
      have hcb := hxs.cb
      have htb := hxs.tb
      rw [List.length_take, Nat.min_eq_left (by omega)] at hnb hcb htb
      obtain ⟨ba, oa, hae, hca⟩ := ints_cells (by
        obtain ⟨a', c', e, -, -, -, h3⟩ := HVA.out
        injection e with e1 e2 e3
        subst e1
        exact h3) (j := k) (by simpa using hkn)
      obtain ⟨bb, ob, hbe, hcb'⟩ := ints_cells (by
        obtain ⟨a', c', e, -, -, -, h3⟩ := HVB.out
        injection e with e1 e2 e3
        subst e1
        exact h3) (j := k) (by simpa using hkn)
      have p1 : wr.cell? ⟨ba, oa + k, none⟩ = some (.int .i64 x) := by
        obtain ⟨z1, z2, z3⟩ := HFA.out _ hae
        rw [World.cell?_of_block (w := w) (hch.block ba z1 (fun e => e.elim z2 z3)), hca w (Below.refl _ _), hx]
        simp [List.getD, hkn]
      have p2 : wr.cell? ⟨bb, ob + k, none⟩ = some (.int .i64 y) := by
        obtain ⟨z1, z2, z3⟩ := HFB.out _ hbe
        rw [World.cell?_of_block (w := w) (hch.block bb z1 (fun e => e.elim z2 z3)), hcb' w (Below.refl _ _), hy]
        simp [List.getD, hkn]
      subst hae hbe
      obtain ⟨S1, hS1⟩ : ∃ S1, S1 = (xorsS (ps.take k) S).2 := ⟨_, rfl⟩
      obtain ⟨sl, hsl⟩ : ∃ sl, sl = (xorsS (ps.take k) S).1 := ⟨_, rfl⟩
      have hsll : sl.length ≤ 50 := by rw [hsl, xorsS_len, List.length_take]; omega
      have hgi := hxs.gi
      rw [← hS1] at hrep hG hsn hox hoy hnb hcb htb hgi
      rw [← hsl] at hrs hsn
      have hRM := HRM.out
      have hrm : Room S1 := ⟨by omega, by omega, by omega⟩
      have hBr : B ≤ wr.heap.size := Nat.le_trans HB.out hch.size
      have hdr : Below wr.heap.size wr wr.drew := (Below.refl _ _).drew
      have hX := Xor_ (w := wr.drew) (fp := fp1) ⟨D1, hrep, hG.below hdr⟩ hBr hrm hgi hox hoy
      have hxr := xor_res hgi hox hoy
      have hok := hxr.ok
      have hnb2 := hxr.nb
      obtain ⟨r, hrr⟩ : ∃ r, r = (xorS x y S1).1 := ⟨_, rfl⟩
      rw [← hrr] at hX hok hsn
      have r0 : -100000 ≤ r := by have := hok.2.1; omega
      have r1 : r ≤ 100000 := by have := hok.2.2; omega
      have HXO := Lib.hid hX
      have HSN := Lib.hid hsn
      have HCH := Lib.hid hch
      have HFP := Lib.hid hfp
      have HBL := Lib.hid hbl
      have HRS := Lib.hid hrs
      have HBO := Lib.hid hbo
      have HSLL := Lib.hid hsll
      have HBR := Lib.hid hBr
      have HWR : Hid (IntKind.i64.wrap (-r) = -r) := Lib.hid (IntWalk.i64_in _ (by omega))
      clear hrep hG hch hfp hbl hrs hbo hxs hlp htk hx hy hsn hox hoy hnb hcb htb hca hcb' hS1 hsl hsll hgi hRM hrm hBr hdr hX hxr hok hnb2 hrr hkn
      go_wp2_with fail
      go_region_law (first
        | (go_simp; go_at_call 11; refine HXO.out.mono ?_; rintro e w3 ⟨rfl, D3, hrep3, fp3, hG3, hc3, hs3, hb3⟩
           have hrs3 := (HRS.out.below (Below.refl _ _).drew).chg hc3 hs3
           have HRS3 := Lib.hid hrs3
           have HR3 := Lib.hid hrep3
           have HG3 := Lib.hid hG3
           have HC3 := Lib.hid hc3
           have HS3 := Lib.hid hs3
           have HB3 := Lib.hid hb3
           clear hrs3 hrep3 hG3 hc3 hs3 hb3)
        | (refine step_app rfl (.tmp 31) (.tmp 43) _ rfl 3 (.int .i64 0) 1 8 Try.underlying32 infoI rfl (by decide) u7 sl.length (sl.map iv) ?hs ?ho w3.heap.size 0 1 1 [.int .i64 (IntKind.i64.wrap (-r))] ?hx rfl ?hn ?h1 ?c1 ?c2 ?_
           case hs => ((try simp only [List.getElem_toArray, List.getElem_cons_succ, List.getElem_cons_zero]); (repeat rw [eval_put_ne _ _ _ _ (by decide)]); first | (with_reducible refine eval_put_eq _ _ _ ?_; simp [put_size]; done) | rfl)
           case hx => ((try simp only [List.getElem_toArray, List.getElem_cons_succ, List.getElem_cons_zero]); (repeat rw [eval_put_ne _ _ _ _ (by decide)]); first | (with_reducible refine eval_put_eq _ _ _ ?_; simp [put_size]; done) | rfl)
           case ho => exact HRS3.out.r.alloc _
           case hn => exact cellNew _ _ _ _ rfl
           case h1 => exact oneCell1 rfl
           case c1 => have := HSLL.out; unfold maxLen; omega
           case c2 => have := HSLL.out; omega
           intro v4 w4 hp4
           rw [HWR.out] at hp4
           have HP4 := Lib.hid hp4
           clear hp4))
      all_goals
        have HF : Hid (EqR fp B w g f m S ps (k + 1) v4 w4) := Lib.hid (by
          have hA : Below w3.heap.size w3 (w3.alloc (.cells #[.int .i64 (-r)] 3)) := al1 _ _
          have hfl := HG3.out.fo.lt'
          have hml := HG3.out.mp.lt
          have hrs4 := HRS3.out.app (fun y e => by have := hfl y e; omega) hml HP4.out
          have hcs : Chg (fun y => u7.ownBlock = some y) w3 w4 := ((Chg.of_below (S := fun _ => False) hA).mono (fun _ e => e.elim)).trans HP4.out.2.1 (fun i hi => .inl hi)
          have s1 := HCH.out.size
          have hdr : Below wr.heap.size wr wr.drew := (Below.refl _ _).drew
          have s2 := hdr.size
          have s3 := HC3.out.size
          have hHB := HB.out
          have hgl := HG.out.bk.lt
          have hG4 := HG3.out.chgT hcs (fun y hy => .inr ⟨by have := HBO.out y hy; omega, (HRS3.out.o y hy).1, (HRS3.out.o y hy).2⟩)
          have hc13 : Chg (fun x => fp x ∨ x = m) w w3 := (HCH.out.trans ((Chg.of_below (S := fun _ => False) hdr).mono (fun _ e => e.elim)) (fun i hi => hi)).trans HC3.out (fun i hi => by
            rcases hi with hi | hi
            · rcases HFP.out i hi with e | e
              · exact .inl (.inl e)
              · exact .inr e
            · exact .inl (.inr hi))
          unfold EqR
          rw [HSN.out]
          refine ⟨fp3, D3, HR3.out, hG4, hc13.trans hcs (fun i hi => .inr (HBO.out i hi)), fun x hx => ?_, ?_, hrs4, fun b hb => ?_⟩
          · rcases HS3.out x hx with e | e
            · exact HFP.out x e
            · exact .inr (by omega)
          · exact ((HBL.out.trans (hdr.mono HBR.out)).trans HB3.out).trans (hcs.below (by omega) (fun i hi => by have := HBO.out i hi; omega))
          · rcases HP4.out.2.2 with e | e
            · rw [e] at hb; exact HBO.out b hb
            · rw [e] at hb; simp at hb; omega)
        clear HP4
        go_wp2_with fail
        go_roundw
        case rel => exact ⟨k + 1, by omega, by go_num, HF.out⟩
        case measure => simp [intOf]; omega
    · have hkn : k = ps.length := by have := HN.out; omega
      obtain ⟨fp1, D1, hrep, hG, hch, hfp, hbl, hrs, hbo⟩ := hE
      have hxs := HXR.out k (by omega)
      rw [hkn, List.take_length] at hrep hG hrs hxs
      have hnb := hxs.nb
      have hcb := hxs.cb
      have htb := hxs.tb
      have hRM := HRM.out
      have hl9 : ps.length ≤ 50 := by have := HN.out; omega
      have hal := All_ (w := wr) (fp := fp1) ⟨D1, hrep, hG⟩ (Nat.le_trans HB.out hch.size) ⟨by omega, by omega, by omega⟩ hrs.r.ints hxs.ok (by rw [xorsS_len]; omega)
      have HAL := Lib.hid hal
      have HCH := Lib.hid hch
      have HFP := Lib.hid hfp
      have HBL := Lib.hid hbl
      clear hkn hrep hG hch hfp hbl hrs hbo hxs hnb hcb htb hRM hl9 hal
      go_wp2_with fail
      refine HAL.out.mono ?_
      rintro e w3 ⟨rfl, D3, hrep3, hG3⟩
      have HF : Hid (GLeft fp B w g f m (equalS ps S).2 w3) := Lib.hid ⟨D3, hrep3, GSt.trans HCH.out HFP.out HBL.out hG3⟩
      clear hrep3 hG3
      go_wp2
      go_ret
      exact ⟨rfl, HF.out⟩
end
end Go.Proofs.Ytkofhilgehhopaa
