/-
  Chapter 22: copied, the copy's Lits, Follows; walked.
-/
import Derived.Test.YtkaklgjdmlddmaaWbC
namespace Go.Proofs.Ytkaklgjdmlddmaa
open Go.ChangeShapes Go.WideShapes Go.ChangeAt Go.RowKit
set_option linter.unusedVariables false
set_option linter.unusedSimpArgs false
attribute [local go_sem ↓] Go.wp_at_zero Go.wp_at_succ
abbrev It := Int × Int × Int
def itC (x : It) : List Value := [.int .i64 x.1, .int .i64 x.2.1, .int .i64 x.2.2]
theorem itC_len (l : List It) : (l.flatMap itC).length = 3 * l.length := by
  induction l with
  | nil => rfl
  | cons x l ih => rw [List.flatMap_cons, List.length_append, ih, List.length_cons]; simp [itC]; omega
theorem infoIT : (Try.prog.info? 81).map (fun i => (i.zero, i.size, i.bytes)) = some (some (.agg #[.int .i64 0, .int .i64 0, .int .i64 0]), 3, 24) := by kernel_rfl
/-- A copy of a trail: block cb. -/
structure Cop (w : World) (cb : Nat) (a c : Value) (vL : Value) (its : List It) : Prop where
  b : Blk w cb 79 #[a, vL, c]
  l : Row w 81 3 vL its.length (its.flatMap itC)
  ne : ∀ g, vL.ownBlock = some g → g ≠ cb
theorem Cop.below {w w' : World} {cb : Nat} {a c vL : Value} {its : List It} (h : Cop w cb a c vL its) (hb : Below w.heap.size w w') : Cop w' cb a c vL its :=
  ⟨h.b.below hb h.b.lt, h.l.chg (S := fun _ => False) (Chg.of_below hb) (fun _ _ h => h), h.ne⟩
theorem Row.formI {w : World} {v : Value} {its : List It} (h : Row w 81 3 v its.length (its.flatMap itC)) : ∃ a c, v = .slice a its.length c ∧ its.length ≤ c ∧ c ≤ maxLen := by
  rcases h.form with ⟨rfl, e0, -⟩ | ⟨g, cap, rfl, h1, h2, -⟩
  · exact ⟨_, _, by rw [e0], by omega, by simp⟩
  · exact ⟨_, _, rfl, h1, h2⟩
theorem flat_at (its : List It) (k : Nat) (hk : k < its.length) : ∀ i, i < 3 → (its.flatMap itC).getD (k * 3 + i) undef = (itC (its.getD k (0, 0, 0))).getD i undef := by
  induction its generalizing k with
  | nil => simp at hk
  | cons x its ih =>
    intro i hi
    rw [List.flatMap_cons]
    cases k with
    | zero =>
      have : 0 * 3 + i < (itC x).length := by simp [itC]; omega
      simp only [List.getD]
      rw [List.getElem?_append_left this]
      simp
    | succ k =>
      have h3 : (itC x).length = 3 := rfl
      have := ih k (by simpa using hk) i hi
      simp only [List.getD] at this ⊢
      rw [List.getElem?_append_right (by omega), h3, show (k + 1) * 3 + i - 3 = k * 3 + i by omega, this]
      simp
theorem Cop.at_ {w : World} {cb : Nat} {a c vL : Value} {its : List It} (h : Cop w cb a c vL its) {k : Nat} (hk : k < its.length) :
    ∃ g cap, vL = .slice (some ⟨g, 0, none⟩) its.length cap ∧ w.cell? ⟨g, k * 3, none⟩ = some (.int .i64 (its.getD k (0, 0, 0)).1) ∧ w.cell? ⟨g, k * 3 + 1, none⟩ = some (.int .i64 (its.getD k (0, 0, 0)).2.1) ∧ w.cell? ⟨g, k * 3 + 2, none⟩ = some (.int .i64 (its.getD k (0, 0, 0)).2.2) ∧ its.length ≤ cap := by
  rcases h.l.form with ⟨-, e0, -⟩ | ⟨g, cap, e, h1, h2, -, hx⟩
  · omega
  · have hl := itC_len its
    refine ⟨g, cap, e, ?_, ?_, ?_, h1⟩
    · have := (hx (k * 3) (by omega)).1; have e2 := flat_at its k hk 0 (by omega); rw [Nat.add_zero] at e2; rw [this, e2]; rfl
    · have := (hx (k * 3 + 1) (by omega)).1; rw [this, flat_at its k hk 1 (by omega)]; rfl
    · have := (hx (k * 3 + 2) (by omega)).1; rw [this, flat_at its k hk 2 (by omega)]; rfl
/-- What a trail's copy has. -/
def itemsOf (t : TS) : List It := t.l.map fun x => (x, t.level (absI x), t.reason (absI x))
theorem LW.level {B : Nat} {w0 w : World} {r : Nat → Nat} {wb t : Nat} {S : WS} (h : LW B w0 w r wb t S) (v : Int) : Calls Try.prog 51 #[.pointer (some ⟨t, 0, none⟩), .int .i64 v] w fun e w' => e = .returned (.int .i64 (S.t.level v)) ∧ Below w.heap.size w w' := by
  obtain ⟨vl, vs, vd, us, xs, hV⟩ := h.at_
  obtain ⟨fp, hT, hfp⟩ := hV.tr
  exact trail_Level hT v
theorem LW.reason {B : Nat} {w0 w : World} {r : Nat → Nat} {wb t : Nat} {S : WS} (h : LW B w0 w r wb t S) (v : Int) : Calls Try.prog 48 #[.pointer (some ⟨t, 0, none⟩), .int .i64 v] w fun e w' => e = .returned (.int .i64 (S.t.reason v)) ∧ Below w.heap.size w w' := by
  obtain ⟨vl, vs, vd, us, xs, hV⟩ := h.at_
  obtain ⟨fp, hT, hfp⟩ := hV.tr
  exact trail_Reason hT v
theorem cop_cells {w w1 : World} {cb : Nat} {a c vL v' : Value} {its : List It} {n : Nat} {xs : List Value} (h : Cop w cb a c vL its) (hp : AppPost w 81 3 vL n xs v' w1) : w1.cell? ⟨cb, 1, none⟩ = some vL ∧ w1.frozen? ⟨cb, 1, none⟩ = false ∧ cb < w1.heap.size := by
  have hb := h.b.chg hp.2.1 (fun e => h.ne cb e rfl)
  exact ⟨hb.cell 1, hb.frozen 1, hb.lt⟩
theorem lit9.small {x : Int} (h : lit9 x) : Go.Proofs.Ytkaklgjdmlddmaa.small x := by unfold lit9 at h; unfold Go.Proofs.Ytkaklgjdmlddmaa.small; omega
/-- Between two items. -/
def CopR (wL : World) (cb : Nat) (a c : Value) (its : List It) (wr : World) : Prop :=
  ∃ vL, Cop wr cb a c vL its ∧ (∀ g, vL.ownBlock = some g → wL.heap.size ≤ g) ∧ Chg (fun b => b = cb) wL wr
theorem cop_step {wL wr W wB : World} {cb k : Nat} {a c vL v' : Value} {its : List It} {x : It} (h : Cop wr cb a c vL its) (hg : ∀ g, vL.ownBlock = some g → wL.heap.size ≤ g) (hc : Chg (fun b => b = cb) wL wr) (hW : Below wr.heap.size wr W)
    (hk : k = its.length) (hp : AppPost (W.alloc (.cells #[.int .i64 x.1, .int .i64 x.2.1, .int .i64 x.2.2] 81)) 81 3 vL (k + 1) (its.flatMap itC ++ itC x) v' wB) : CopR wL cb a c (its ++ [x]) (wB.setCell ⟨cb, 1, none⟩ v') := by
  have hA : Below wr.heap.size wr (W.alloc (.cells #[.int .i64 x.1, .int .i64 x.2.1, .int .i64 x.2.2] 81)) := hW.alloc hW.size _
  have hca := h.below hA
  obtain ⟨p1, p2, p3⟩ := hp
  have hb := hca.b.chg p2 (fun e => hca.ne cb e rfl)
  have hcl : cb < wr.heap.size := h.b.lt
  have hsz := hc.size
  have hWs := hW.size
  have own : ∀ g, v'.ownBlock = some g → wL.heap.size ≤ g ∧ g ≠ cb := fun g hg' => by
    rcases p3 with e | e
    · rw [e] at hg'; exact ⟨hg g hg', h.ne g hg'⟩
    · rw [e] at hg'; injection hg' with hg'; simp at hg'; omega
  refine ⟨v', ⟨?_, ?_, fun g hg' => (own g hg').2⟩, fun g hg' => (own g hg').1, ?_⟩
  · have := hb.set_ 1 v'
    simpa using this
  · have e : (its ++ [x]).length = k + 1 := by rw [List.length_append, hk]; rfl
    have e2 : (its ++ [x]).flatMap itC = its.flatMap itC ++ itC x := by simp
    rw [e, e2]
    exact p1.chg (S := fun b => b = cb) ((Chg.refl (fun b => b = cb) wB).setCell (p := ⟨cb, 1, none⟩) (.inl rfl) _) (fun g hg' e => (own g hg').2 e)
  · have h1 := hc.trans (Chg.of_below (S := fun _ => False) hA) (fun i hi => hi.elim)
    have h2 : Chg (fun b => b = cb) wL wB := h1.trans p2 (fun i hi => .inr (hg i hi))
    exact h2.setCell (.inl rfl) _
/-- What copied leaves. -/
def CopiedQ (w : World) (t : TS) (e : Ending) (w' : World) : Prop := ∃ cb a c vL, e = .returned (.pointer (some ⟨cb, 0, none⟩)) ∧ Cop w' cb a c vL (itemsOf t) ∧ Below w.heap.size w w'
set_option maxHeartbeats 8000000 in
set_option maxRecDepth 100000 in
theorem copied_ {B : Nat} {w0 w : World} {r : Nat → Nat} {wb t : Nat} {S : WS} (h : LW B w0 w r wb t S) (ht : TI S.t) :
    Calls Try.prog 26 #[.pointer (some ⟨t, 0, none⟩)] w (CopiedQ w S.t) := by
  have HDE := Lib.hid h.depth
  have HTI := Lib.hid ht
  obtain ⟨dp, hdp⟩ : ∃ dp, dp = S.t.lv.length := ⟨_, rfl⟩
  rw [← hdp] at HDE
  obtain ⟨w1, hw1⟩ : ∃ w1, w1 = w.alloc (.cells #[.int .i64 12, .slice none 0 0, .int .i64 dp] 79) := ⟨_, rfl⟩
  have hA : Below w.heap.size w w1 := by rw [hw1]; exact (Below.refl _ _).alloc (Nat.le_refl _) _
  have hcb : Blk w1 w.heap.size 79 #[.int .i64 12, .slice none 0 0, .int .i64 dp] := by rw [hw1]; exact Blk.new w _ _
  obtain ⟨cb, hcbe⟩ : ∃ cb, cb = w.heap.size := ⟨_, rfl⟩
  have hW1 := h.below hA
  have hrcb : r cb = 0 := h.at_.hi cb (by omega)
  have HBW := Lib.hid h.hB
  have HLT := Lib.hid (hW1.lits (by have := ht.len; omega))
  have HW1 := Lib.hid hW1
  rw [← hcbe] at hcb
  have HCB := Lib.hid hcb
  have HRC := Lib.hid hrcb
  have HA := Lib.hid hA
  have HCE := Lib.hid hcbe
  have HW1E := Lib.hid hw1
  clear h ht hdp hA hcb hW1 hrcb hcbe hw1
  go_enter Try.func26, Try.ntmps26
  go_wp2_with ((go_at_call 22; refine (HDE.out).mono ?_; rintro e w' ⟨rfl, rfl⟩))
  rw [← HW1E.out, ← HCE.out]
  refine HLT.out.mono ?_
  rintro e wL ⟨lv, rfl, hcp⟩
  obtain ⟨n, hn⟩ : ∃ n, n = S.t.l.length := ⟨_, rfl⟩
  obtain ⟨la, lc, hlv⟩ := ints_form hcp.1.ints
  rw [← hn] at hlv
  subst hlv
  have hn9 : n ≤ 9 := by rw [hn]; exact HTI.out.len
  have hbL := hcp.2.2
  have hI : Ints wL (.slice la n lc) S.t.l := hcp.1.ints
  have hlown : ∀ g, (Value.slice la n lc).ownBlock = some g → w1.heap.size ≤ g := hcp.2.1
  have hcl1 : cb < w1.heap.size := HCB.out.lt
  have HWL := Lib.hid (HW1.out.below hbL)
  have HI : Hid (CopR wL cb (.int .i64 12) (.int .i64 dp) [] wL) := Lib.hid ⟨.slice none 0 0, ⟨HCB.out.below hbL hcl1, World.ownsRow_nil _ _ _ _, fun g hg => by simp [Value.ownBlock] at hg⟩, fun g hg => by simp [Value.ownBlock] at hg, Chg.refl _ _⟩
  have HIN := Lib.hid hI
  have HLO := Lib.hid hlown
  have HBL := Lib.hid hbL
  have HN := Lib.hid hn
  have HCL := Lib.hid hcl1
  clear hcp hn hbL hI hlown hcl1
  go_wp2_with fail
  go_loopw [5, 6] (fun i _ wr => ∃ k : Nat, k ≤ n ∧ i = .int .i64 k ∧ CopR wL cb (.int .i64 12) (.int .i64 dp) ((itemsOf S.t).take k) wr) (fun i _ _ => n - (intOf i).toNat)
  case atStart => exact ⟨0, Nat.zero_le _, rfl, HI.out⟩
  case round =>
    obtain ⟨k, hk, rfl, vL, hC, hg, hc⟩ := hrel
    by_cases hlt : (k : Int) < (n : Int)
    · have hkn : k < S.t.l.length := by have := HN.out; omega
      obtain ⟨x, hx⟩ : ∃ x, x = S.t.l.getD k 0 := ⟨_, rfl⟩
      have hx9 : lit9 x := by rw [hx]; exact HTI.out.li _ (mem_getD hkn)
      have hW : LW B w0 wr r wb t S := ⟨HWL.out.at_.chg hc (fun b hb e => hb (by rw [e]; exact HRC.out)), HWL.out.old.trans (hc.below HWL.out.hB (fun i hi => by have := HWL.out.hB; have := HCE.out; have := HBW.out; omega)), Nat.le_trans HWL.out.hB hc.size⟩
      have hIr : Ints wr (.slice la n lc) S.t.l := HIN.out.chg hc (fun g hg e => by have := HLO.out g hg; have := HCL.out; omega)
      obtain ⟨_, _, hle, -, -, -, hcell0⟩ := hIr
      injection hle with e1 e2 e3
      subst e1
      obtain ⟨b, off, rfl, hcell⟩ := ints_cells hcell0 hkn
      rw [← hx] at hcell
      have q1 := hcell wr (Below.refl _ _)
      have HLV := Lib.hid (fun W (hb : Below wr.heap.size wr W) => ((hW.below hb).level (absI x)).mono (fun e w' ⟨h1, h2⟩ => (⟨h1, hb.trans (h2.mono hb.size)⟩ : e = Ending.returned (.int .i64 (S.t.level (absI x))) ∧ Below wr.heap.size wr w')))
      have HRE := Lib.hid (fun W (hb : Below wr.heap.size wr W) => ((hW.below hb).reason (absI x)).mono (fun e w' ⟨h1, h2⟩ => (⟨h1, hb.trans (h2.mono hb.size)⟩ : e = Ending.returned (.int .i64 (S.t.reason (absI x))) ∧ Below wr.heap.size wr w')))
      obtain ⟨lev, hlev⟩ : ∃ lev, lev = S.t.level (absI x) := ⟨_, rfl⟩
      obtain ⟨rea, hrea⟩ : ∃ rea, rea = S.t.reason (absI x) := ⟨_, rfl⟩
      rw [← hlev] at HLV
      rw [← hrea] at HRE
      have HAB := Lib.hid (r17_Abs x hx9.small)
      have hlk : ((itemsOf S.t).take k).length = k := by rw [List.length_take]; unfold itemsOf; rw [List.length_map]; omega
      have htk : (itemsOf S.t).take (k + 1) = (itemsOf S.t).take k ++ [(x, lev, rea)] := by
        rw [List.take_succ_eq_append_getElem (by unfold itemsOf; rw [List.length_map]; exact hkn)]
        congr 2
        unfold itemsOf
        rw [List.getElem_map, hlev, hrea, hx, getD_mem' hkn]
      obtain ⟨va, vc, hvf, -, -⟩ := hC.l.formI
      rw [hlk] at hvf
      subst hvf
      have HCC : Hid (∀ W, Below wr.heap.size wr W → W.cell? ⟨cb, 1, none⟩ = some (.slice va k vc) ∧ W.frozen? ⟨cb, 1, none⟩ = false ∧ cb < W.heap.size ∧ W.cell? ⟨b, off + k, none⟩ = some (.int .i64 x)) := Lib.hid fun W hb => by
        have h1 := (hC.below hb).b
        exact ⟨h1.cell 1, h1.frozen 1, h1.lt, hcell W hb⟩
      have HRO : Hid (∀ W, Below wr.heap.size wr W → Row W 81 3 (.slice va k vc) k (((itemsOf S.t).take k).flatMap itC)) := Lib.hid fun W hb => by
        have := (hC.below hb).l
        rwa [hlk] at this
      obtain ⟨its, hits⟩ : ∃ its, its = (itemsOf S.t).take k := ⟨_, rfl⟩
      rw [← hits] at HRO hC htk hlk
      have HST : Hid (∀ W v' wB, Below wr.heap.size wr W → AppPost (W.alloc (.cells #[.int .i64 x, .int .i64 lev, .int .i64 rea] 81)) 81 3 (.slice va k vc) (k + 1) (its.flatMap itC ++ [.int .i64 x, .int .i64 lev, .int .i64 rea]) v' wB → CopR wL cb (.int .i64 12) (.int .i64 dp) ((itemsOf S.t).take (k + 1)) (wB.setCell ⟨cb, 1, none⟩ v') ∧ wB.cell? ⟨cb, 1, none⟩ = some (.slice va k vc) ∧ wB.frozen? ⟨cb, 1, none⟩ = false ∧ cb < wB.heap.size) := Lib.hid fun W v' wB hb hp => by
        refine ⟨?_, cop_cells (hC.below (hb.alloc hb.size _)) hp⟩
        rw [htk]
        exact cop_step (x := (x, lev, rea)) hC hg hc hb hlk.symm hp
      have b0 : Below wr.heap.size wr wr := Below.refl _ _
      have b1 : Below wr.heap.size wr wr.drew := b0.drew
      obtain ⟨z1, z2, z3, z4⟩ := HCC.out wr.drew b1
      have sx := hx9.small
      clear hx hx9 hW hcell0 hcell hlev hrea hlk htk hC hg hc hits hkn e2 e3 sx
      go_wp2_with ((go_at_call 49; refine (HAB.out _).mono ?_; rintro e w' ⟨rfl, rfl⟩))
      go_region_law (first
        | (go_simp; go_at_call 51; refine (HLV.out _ (by assumption)).mono ?_; rintro e wX ⟨rfl, bX⟩; obtain ⟨y1, y2, y3, y4⟩ := HCC.out wX bX)
        | (go_simp; go_at_call 48; refine (HRE.out _ (by assumption)).mono ?_; rintro e wY ⟨rfl, bY⟩; obtain ⟨x1, x2, x3, x4⟩ := HCC.out wY bY)
        | (refine step_app rfl (.tmp 28) (.tmp 40) _ rfl 81 (.agg #[.int .i64 0, .int .i64 0, .int .i64 0]) 3 24 Try.underlying77 infoIT rfl (by decide) (.slice va k vc) k (its.flatMap itC) ?hs ?ho wX.heap.size 0 1 1 [.int .i64 x, .int .i64 lev, .int .i64 rea] ?hx rfl ?hn ?h1 ?c1 ?c2 ?_
           case hs => ((try simp only [List.getElem_toArray, List.getElem_cons_succ, List.getElem_cons_zero]); (repeat rw [eval_put_ne _ _ _ _ (by decide)]); first | (with_reducible refine eval_put_eq _ _ _ ?_; simp [put_size]; done) | rfl)
           case hx => ((try simp only [List.getElem_toArray, List.getElem_cons_succ, List.getElem_cons_zero]); (repeat rw [eval_put_ne _ _ _ _ (by decide)]); first | (with_reducible refine eval_put_eq _ _ _ ?_; simp [put_size]; done) | rfl)
           case ho => exact (HRO.out _ (by assumption)).alloc _
           case hn => (intro j u hu; rw [Nat.zero_add]; refine ((Blk.new _ _ _).cell j).trans ?_; simpa using hu)
           case h1 => intro u hu; simp at hu; rcases hu with rfl | rfl | rfl <;> rfl
           case c1 => unfold maxLen; omega
           case c2 => omega
           intro v3 wB hpF
           obtain ⟨ao, co, rfl⟩ : ∃ ao co, v3 = .slice ao (k + 1) co := by
             obtain ⟨p1, -, -⟩ := hpF
             rcases p1.form with ⟨rfl, e0, -⟩ | ⟨g, cap, rfl, -⟩
             · omega
             · exact ⟨_, _, rfl⟩
           obtain ⟨hfin, kB, fB, sB⟩ := HST.out _ _ wB (by assumption) hpF
           have HFI := Lib.hid hfin
           clear hfin hpF)
        | (refine step_app rfl (.tmp 28) (.tmp 40) _ rfl 81 (.agg #[.int .i64 0, .int .i64 0, .int .i64 0]) 3 24 Try.underlying77 infoIT rfl (by decide) (.slice va k vc) k (its.flatMap itC) ?hsb ?hob wY.heap.size 0 1 1 [.int .i64 x, .int .i64 lev, .int .i64 rea] ?hxb rfl ?hnb ?h1b ?c1b ?c2b ?_
           case hsb => ((try simp only [List.getElem_toArray, List.getElem_cons_succ, List.getElem_cons_zero]); (repeat rw [eval_put_ne _ _ _ _ (by decide)]); first | (with_reducible refine eval_put_eq _ _ _ ?_; simp [put_size]; done) | rfl)
           case hxb => ((try simp only [List.getElem_toArray, List.getElem_cons_succ, List.getElem_cons_zero]); (repeat rw [eval_put_ne _ _ _ _ (by decide)]); first | (with_reducible refine eval_put_eq _ _ _ ?_; simp [put_size]; done) | rfl)
           case hob => exact (HRO.out _ (by assumption)).alloc _
           case hnb => (intro j u hu; rw [Nat.zero_add]; refine ((Blk.new _ _ _).cell j).trans ?_; simpa using hu)
           case h1b => intro u hu; simp at hu; rcases hu with rfl | rfl | rfl <;> rfl
           case c1b => unfold maxLen; omega
           case c2b => omega
           intro v3 wB hpF
           obtain ⟨ao, co, rfl⟩ : ∃ ao co, v3 = .slice ao (k + 1) co := by
             obtain ⟨p1, -, -⟩ := hpF
             rcases p1.form with ⟨rfl, e0, -⟩ | ⟨g, cap, rfl, -⟩
             · omega
             · exact ⟨_, _, rfl⟩
           obtain ⟨hfin, kB, fB, sB⟩ := HST.out _ _ wB (by assumption) hpF
           have HFI := Lib.hid hfin
           clear hfin hpF))
      all_goals
        go_wp2_with fail
        go_roundw
        case rel => exact ⟨k + 1, by omega, by go_num, HFI.out⟩
        case measure => simp [intOf]; omega
    · have HF : Hid (Cop wr cb (.int .i64 12) (.int .i64 dp) vL (itemsOf S.t)) := Lib.hid (by
        have e : (itemsOf S.t).take k = itemsOf S.t := List.take_of_length_le (by unfold itemsOf; rw [List.length_map]; have := HN.out; omega)
        rw [e] at hC; exact hC)
      have HB2 : Hid (Below w.heap.size w wr) := Lib.hid ((HA.out.trans (HBL.out.mono HA.out.size)).trans (hc.below (by have := HA.out.size; have := HBL.out.size; omega) (fun i hi => by have := HCE.out; omega)))
      clear hC hg hc
      go_wp2_with fail
      go_ret
      exact ⟨cb, _, _, vL, rfl, HF.out, HB2.out⟩
end Go.Proofs.Ytkaklgjdmlddmaa
/-
  Chapter 22: the copy's Lits, Follows; walked.
-/
namespace Go.Proofs.Ytkaklgjdmlddmaa
open Go.ChangeShapes Go.WideShapes Go.ChangeAt Go.RowKit
set_option linter.unusedVariables false
set_option linter.unusedSimpArgs false
attribute [local go_sem ↓] Go.wp_at_zero Go.wp_at_succ
/-- The slice v reads as items. -/
def Its (w : World) (v : Value) (its : List It) : Prop :=
  ∃ a cap, v = .slice a its.length cap ∧ its.length ≤ cap ∧ cap ≤ maxLen ∧ (its = [] ∨ ∃ g, a = some ⟨g, 0, none⟩ ∧ ∀ k, k < its.length →
    w.cell? ⟨g, k * 3, none⟩ = some (.int .i64 (its.getD k (0, 0, 0)).1) ∧ w.cell? ⟨g, k * 3 + 1, none⟩ = some (.int .i64 (its.getD k (0, 0, 0)).2.1) ∧ w.cell? ⟨g, k * 3 + 2, none⟩ = some (.int .i64 (its.getD k (0, 0, 0)).2.2))
theorem Cop.its {w : World} {cb : Nat} {a c vL : Value} {its : List It} (h : Cop w cb a c vL its) : Its w vL its := by
  obtain ⟨A, cap, e, h1, h2⟩ := h.l.formI
  refine ⟨A, cap, e, h1, h2, ?_⟩
  by_cases hn : its = []
  · exact .inl hn
  · have h0 := List.length_pos_iff.2 hn
    obtain ⟨g, cap', e', -⟩ := h.at_ h0
    rw [e] at e'
    injection e' with e1 e2 e3
    refine .inr ⟨g, e1, fun k hk => ?_⟩
    obtain ⟨g', cap'', e'', q1, q2, q3, -⟩ := h.at_ hk
    rw [e] at e''
    injection e'' with f1 f2 f3
    rw [e1] at f1
    injection f1 with f1
    injection f1 with f1
    subst f1
    exact ⟨q1, q2, q3⟩
theorem Its.below {w w' : World} {v : Value} {its : List It} (h : Its w v its) (hb : Below w.heap.size w w') : Its w' v its := by
  obtain ⟨a, cap, rfl, h1, h2, h3⟩ := h
  refine ⟨a, cap, rfl, h1, h2, ?_⟩
  rcases h3 with h3 | ⟨g, rfl, hc⟩
  · exact .inl h3
  · refine .inr ⟨g, rfl, fun k hk => ?_⟩
    obtain ⟨q1, q2, q3⟩ := hc k hk
    have hlt := World.block_lt_of_cell? w _ q1
    exact ⟨(hb.cell (p := ⟨g, k * 3, none⟩) hlt).trans q1, (hb.cell (p := ⟨g, k * 3 + 1, none⟩) hlt).trans q2, (hb.cell (p := ⟨g, k * 3 + 2, none⟩) hlt).trans q3⟩
theorem Its.take {w : World} {a : Option Addr} {n cap : Nat} {its : List It} (h : Its w (.slice a n cap) its) {k : Nat} (hk : k ≤ n) : Its w (.slice a k cap) (its.take k) := by
  obtain ⟨a', cap', e, h1, h2, h3⟩ := h
  injection e with e1 e2 e3
  subst e1 e2 e3
  have hl : (its.take k).length = k := by rw [List.length_take]; omega
  refine ⟨a, cap, by rw [hl], by omega, h2, ?_⟩
  by_cases h0 : k = 0
  · left; rw [h0]; rfl
  · have hne : its ≠ [] := fun e => by rw [e] at hk; simp at hk; omega
    obtain ⟨g, rfl, hc⟩ := h3.resolve_left hne
    refine .inr ⟨g, rfl, fun j hj => ?_⟩
    rw [hl] at hj
    have e : (its.take k).getD j (0, 0, 0) = its.getD j (0, 0, 0) := by simp [List.getD, List.getElem?_take_of_lt hj]
    rw [e]
    exact hc j (by omega)
theorem Its.at_ {w : World} {v : Value} {its : List It} (h : Its w v its) {k : Nat} (hk : k < its.length) : ∃ g cap, v = .slice (some ⟨g, 0, none⟩) its.length cap ∧ ∀ W, Below w.heap.size w W →
    W.cell? ⟨g, k * 3, none⟩ = some (.int .i64 (its.getD k (0, 0, 0)).1) ∧ W.cell? ⟨g, k * 3 + 2, none⟩ = some (.int .i64 (its.getD k (0, 0, 0)).2.2) := by
  obtain ⟨a, cap, rfl, h1, h2, h3⟩ := h
  have hne : its ≠ [] := fun e => by rw [e] at hk; simp at hk
  obtain ⟨g, rfl, hc⟩ := h3.resolve_left hne
  refine ⟨g, cap, rfl, fun W hW => ?_⟩
  obtain ⟨q1, q2, q3⟩ := hc k hk
  have hlt := World.block_lt_of_cell? w _ q1
  exact ⟨(hW.cell (p := ⟨g, k * 3, none⟩) hlt).trans q1, (hW.cell (p := ⟨g, k * 3 + 2, none⟩) hlt).trans q3⟩
set_option maxHeartbeats 2000000 in
theorem r21_Lits {w : World} {cb : Nat} {v : Value} {its : List It} (hb : w.cell? ⟨cb, 1, none⟩ = some v) (h : Its w v its) (hn9 : its.length ≤ 1000) :
    Calls Try.prog 50 #[.pointer (some ⟨cb, 0, none⟩)] w fun e w' => ∃ u, e = .returned u ∧ OwnI w w' u (its.map (·.1)) := by
  obtain ⟨a, cap, rfl, h1, h2, -⟩ := id h
  obtain ⟨n, hn⟩ : ∃ n, n = its.length := ⟨_, rfl⟩
  rw [← hn] at hb h1 hn9
  have hlt := World.block_lt_of_cell? w _ hb
  have HC : Hid (∀ W, Below w.heap.size w W → W.cell? ⟨cb, 1, none⟩ = some (.slice a n cap)) := Lib.hid fun W hW => (hW.cell (p := ⟨cb, 1, none⟩) hlt).trans hb
  have HN := Lib.hid hn
  have HI := Lib.hid h
  clear h hn hb hlt
  go_enter Try.func50, Try.ntmps50
  go_wp2
  go_loopw [3, 4] (fun out i wr => ∃ k : Nat, k ≤ n ∧ i = .int .i64 k ∧ OwnI w wr out ((its.take k).map (·.1))) (fun _ i _ => n - (intOf i).toNat)
  case atStart => exact ⟨0, Nat.zero_le _, rfl, OwnI.start w⟩
  case round =>
    obtain ⟨k, hk, rfl, hO⟩ := hrel
    have c1 := HC.out wr hO.2.1
    by_cases hlt : (k : Int) < (n : Int)
    · have hkn : k < its.length := by have := HN.out; omega
      obtain ⟨g, cap', he, hcell⟩ := HI.out.at_ hkn
      injection he with e1 e2 e3
      subst e1
      obtain ⟨q1, -⟩ := hcell wr hO.2.1
      obtain ⟨x, hx⟩ : ∃ x, x = (its.getD k (0, 0, 0)).1 := ⟨_, rfl⟩
      rw [← hx] at q1
      have htk : (its.take (k + 1)).map (·.1) = (its.take k).map (·.1) ++ [x] := by
        rw [List.take_succ_eq_append_getElem hkn, List.map_append, hx]
        simp [List.getD, hkn]
      obtain ⟨oa, oc, hou, -, -⟩ := hO.form
      obtain ⟨m, hm⟩ : ∃ m, m = ((its.take k).map (·.1)).length := ⟨_, rfl⟩
      rw [← hm] at hou
      subst hou
      have HTK := Lib.hid htk
      have HO := Lib.hid hO
      have HM := Lib.hid hm
      have hm9 : m ≤ 1000 := by rw [hm, List.length_map, List.length_take]; omega
      clear hcell hx htk hO hm hkn e2 e3
      go_wp2_with (at_builtin; refine wpList_I (w := w) rfl _ _ rfl _ ((its.take k).map (·.1)) rfl (some ⟨wr.heap.size, 0, none⟩) 1 1 [x] rfl rfl (by have := HM.out; omega) (by have h := HO.out.below (below_new1 wr (.cells #[.int .i64 x] 3)); have e := HM.out; rw [e]; rw [e] at h; exact h) (Src.one (heap_new1 _ _)) ?_; intro v4 w4 h4; have H4 := Lib.hid h4; clear h4)
      go_roundw
      case rel => exact ⟨k + 1, by omega, by go_num, by rw [HTK.out]; exact H4.out⟩
      case measure => simp [intOf]; omega
    · have e : its.take k = its := List.take_of_length_le (by have := HN.out; omega)
      rw [e] at hO
      have HF := Lib.hid hO
      clear hO e
      go_wp2
      go_ret
      exact ⟨_, rfl, HF.out⟩
def FolOk (og : List (List Int)) (its : List It) : Prop := ∀ i, i < its.length → (its.getD i (0, 0, 0)).2.2 < 0 ∨ ∃ k : Nat, (its.getD i (0, 0, 0)).2.2 = (k : Int) ∧ k < og.length ∧ telR (og.getD k []) ((its.take i).map (·.1)) = (its.getD i (0, 0, 0)).1
set_option maxHeartbeats 8000000 in
set_option maxRecDepth 100000 in
theorem r22_Follows {w : World} {cb : Nat} {v vl : Value} {its : List It} {og : List (List Int)} (hb : w.cell? ⟨cb, 1, none⟩ = some v) (h : Its w v its) (hn9 : its.length ≤ 1000) (hl : IntsS w vl og) (h9 : ∀ k, k < og.length → C9 (og.getD k [])) (hok : FolOk og its) :
    Calls Try.prog 25 #[.pointer (some ⟨cb, 0, none⟩), vl] w fun e w' => e = .returned (.bool true) ∧ Below w.heap.size w w' := by
  obtain ⟨a, cap, rfl, h1, h2, -⟩ := id h
  obtain ⟨n, hn⟩ : ∃ n, n = its.length := ⟨_, rfl⟩
  rw [← hn] at hb h1 hn9
  have hlt := World.block_lt_of_cell? w _ hb
  have HC : Hid (∀ W, Below w.heap.size w W → W.cell? ⟨cb, 1, none⟩ = some (.slice a n cap)) := Lib.hid fun W hW => (hW.cell (p := ⟨cb, 1, none⟩) hlt).trans hb
  obtain ⟨la, lcap, rfl, hl1, hl2⟩ := hl.form
  obtain ⟨m, hm⟩ : ∃ m, m = og.length := ⟨_, rfl⟩
  rw [← hm] at hl1 ⊢
  have hm9 : m ≤ 9223372036854775807 := Nat.le_trans hl1 hl2
  have HN := Lib.hid hn
  have HM := Lib.hid hm
  have HI := Lib.hid h
  have HL := Lib.hid hl
  have H9 := Lib.hid h9
  have HOK := Lib.hid hok
  clear h hn hm hb hlt hl h9 hok hl1 hl2
  go_enter Try.func25, Try.ntmps25
  go_wp2
  go_loopw [5] (fun i wr => ∃ k : Nat, k ≤ n ∧ i = .int .i64 k ∧ Below w.heap.size w wr) (fun i _ => n - (intOf i).toNat)
  case atStart => exact ⟨0, Nat.zero_le _, rfl, Below.refl _ _⟩
  case round =>
    obtain ⟨i, hi, rfl, hB⟩ := hrel
    have c1 := HC.out wr hB
    by_cases hlt : (i : Int) < (n : Int)
    · have hin : i < its.length := by have := HN.out; omega
      obtain ⟨g, cap', he, hcell⟩ := HI.out.at_ hin
      injection he with e1 e2 e3
      subst e1
      obtain ⟨q1, q2⟩ := hcell wr hB
      obtain ⟨x, hx⟩ : ∃ x, x = (its.getD i (0, 0, 0)).1 := ⟨_, rfl⟩
      obtain ⟨rs, hrs⟩ : ∃ rs, rs = (its.getD i (0, 0, 0)).2.2 := ⟨_, rfl⟩
      rw [← hx] at q1
      rw [← hrs] at q2
      have hoki := HOK.out i hin
      rw [← hx, ← hrs] at hoki
      have HCI : Hid (∀ W, Below wr.heap.size wr W → W.cell? ⟨cb, 1, none⟩ = some (.slice (some ⟨g, 0, none⟩) n cap) ∧ W.cell? ⟨g, i * 3, none⟩ = some (.int .i64 x)) := Lib.hid fun W hW => ⟨HC.out W (hB.trans (hW.mono hB.size)), by rw [hx]; exact (hcell W (hB.trans (hW.mono hB.size))).1⟩
      have HBB := Lib.hid hB
      clear hcell hx hrs hB hin e2 e3
      rcases hoki with hneg | ⟨k, rfl, hk, htel⟩
      · go_wp2
        try rw [Exit.noGoto_exit]
        go_wp2
        go_roundw
        case rel => exact ⟨i + 1, by omega, by go_num, HBB.out⟩
        case measure => simp [intOf]; omega
      · have sz1 : (k : Int) < (m : Int) := by have := HM.out; omega
        obtain ⟨b, off, lcap', cu, he, hce, hint⟩ := HL.out.at_ hk
        injection he with e1 e2 e3
        subst e1
        obtain ⟨c, hc⟩ : ∃ c, c = og.getD k [] := ⟨_, rfl⟩
        rw [← hc] at hint htel
        have h9c := H9.out k hk
        rw [← hc] at h9c
        obtain ⟨ca, cc, rfl⟩ := ints_form hint
        obtain ⟨cn, hcn⟩ : ∃ cn, cn = c.length := ⟨_, rfl⟩
        rw [← hcn] at hce hint
        obtain ⟨w5, hw5⟩ : ∃ w5, w5 = wr.alloc (.cells #[.int .i64 0, .slice (some ⟨g, 0, none⟩) i cap, .int .i64 0] 79) := ⟨_, rfl⟩
        have hA : Below wr.heap.size wr w5 := by rw [hw5]; exact (Below.refl _ _).alloc (Nat.le_refl _) _
        have hbk : Blk w5 wr.heap.size 79 #[.int .i64 0, .slice (some ⟨g, 0, none⟩) i cap, .int .i64 0] := by rw [hw5]; exact Blk.new wr _ _
        have hits : Its w5 (.slice (some ⟨g, 0, none⟩) i cap) (its.take i) := by
          have h0 := (HI.out.below HBB.out).below hA
          rw [← HN.out] at h0
          exact h0.take hi
        have HLI : Hid (∀ W, Below w5.heap.size w5 W → Calls Try.prog 50 #[.pointer (some ⟨wr.heap.size, 0, none⟩)] W fun e w' => ∃ u, e = .returned u ∧ OwnI W w' u ((its.take i).map (·.1))) := Lib.hid fun W hW => r21_Lits ((hbk.below hW hbk.lt).cell 1) (hits.below hW) (by rw [List.length_take]; have := HN.out; omega)
        have HTE : Hid (∀ W u, Below w.heap.size w W → Ints W u ((its.take i).map (·.1)) → Calls Try.prog 36 #[.slice ca cn cc, u] W fun e w' => e = .returned (.int .i64 x) ∧ W = w') := Lib.hid fun W u hW hu => by
          rw [← htel]; exact r22_Tells (hint.below hW) hu h9c.li
        have HCK : Hid (∀ W, Below w.heap.size w W → W.cell? ⟨b, off + k, none⟩ = some (.slice ca cn cc)) := Lib.hid fun W hW => (hW.cell (p := ⟨b, off + k, none⟩) (World.block_lt_of_cell? w _ hce)).trans hce
        have b5 : Below w.heap.size w w5 := HBB.out.trans (hA.mono HBB.out.size)
        have HB5 := Lib.hid b5
        have z1 := HCK.out w5 b5
        obtain ⟨z2, z3⟩ := HCI.out w5 hA
        have HAA := Lib.hid hA
        have HW5 := Lib.hid hw5
        have x0 : (x != x) = false := by simp
        have k0 : (0 : Int) ≤ (k : Int) := by omega
        have g0 : decide ((m : Int) ≤ (k : Int)) = false := decide_eq_false (by omega)
        have g1 : decide (m ≤ k) = false := decide_eq_false (by omega)
        clear hint htel hc h9c hcn hce hk hbk hits b5 hA hw5 e2 e3
        go_wp2
        rw [← HW5.out]
        go_region_held3 (fun w' => w'.cell? ⟨cb, 1, none⟩ = some (.slice (some ⟨g, 0, none⟩) n cap) ∧ w'.cell? ⟨g, i * 3, none⟩ = some (.int .i64 x) ∧ w'.cell? ⟨b, off + k, none⟩ = some (.slice ca cn cc)) (go_keep) (first
          | (go_simp; go_at_call 50; refine (HLI.out _ (by first | exact Below.refl _ _ | exact (Below.refl _ _).drew | exact below_drewN (Below.refl _ _) _)).mono ?_; rintro e wZ ⟨u, rfl, hu⟩; have bZ : Below w5.heap.size w5 wZ := (by first | exact hu.2.1 | exact ((Below.refl _ _).drew).trans (hu.2.1.mono (by simp)) | exact (below_drewN (Below.refl _ _) _).trans (hu.2.1.mono (by simp))); have y1 := HCK.out wZ (HB5.out.trans (bZ.mono HB5.out.size)); obtain ⟨y2, y3⟩ := HCI.out wZ (HAA.out.trans (bZ.mono HAA.out.size)); have HU := Lib.hid hu; have HBZ := Lib.hid (HB5.out.trans (bZ.mono HB5.out.size)); clear hu bZ)
          | (go_simp; go_at_call 36; refine (HTE.out _ _ HBZ.out HU.out.ints).mono ?_; rintro e w' ⟨rfl, rfl⟩))
        all_goals
          go_wp2
          go_roundw
          case rel => exact ⟨i + 1, by omega, by go_num, HBZ.out⟩
          case measure => simp [intOf]; omega
    · have HB := Lib.hid hB
      clear hB
      go_wp2
      go_ret
      exact ⟨rfl, HB.out⟩
end Go.Proofs.Ytkaklgjdmlddmaa
/-
  Chapter 22: right, locked; walked.
-/
namespace Go.Proofs.Ytkaklgjdmlddmaa
open Go.ChangeShapes Go.WideShapes Go.ChangeAt Go.RowKit
set_option linter.unusedVariables false
set_option linter.unusedSimpArgs false
attribute [local go_sem ↓] Go.wp_at_zero Go.wp_at_succ
/-- What a Run's answer must be. -/
structure RiOk (lc : List (List Int)) (lits : List Int) (id : Int) (fine : Bool) : Prop where
  li : ∀ k, k < lc.length → Lit9s (lc.getD k [])
  no : fine = false → ∃ k : Nat, id = (k : Int) ∧ k < lc.length ∧ lc.getD k [] ≠ [] ∧ falR (lc.getD k []) lits = true
  yes : fine = true → id = -1 ∧ ∀ k, k < lc.length → lc.getD k [] ≠ [] → falR (lc.getD k []) lits = false ∧ telR (lc.getD k []) lits = 0
set_option maxHeartbeats 4000000 in
set_option maxRecDepth 100000 in
theorem right_ {B : Nat} {w0 w : World} {r : Nat → Nat} {wb t : Nat} {S : WS} {vl : Value} {lc : List (List Int)} {id : Int} {fine : Bool} (h : LW B w0 w r wb t S) (hn9 : S.t.l.length ≤ 1000) (hl : IntsS w vl lc) (hok : RiOk lc S.t.l id fine) :
    Calls Try.prog 21 #[.pointer (some ⟨t, 0, none⟩), vl, .int .i64 id, .bool fine] w fun e w' => e = .returned (.bool true) ∧ Below w.heap.size w w' := by
  have HLT := Lib.hid (h.lits (by omega))
  obtain ⟨la, lcap, rfl, hl1, hl2⟩ := hl.form
  obtain ⟨m, hm⟩ : ∃ m, m = lc.length := ⟨_, rfl⟩
  rw [← hm] at hl1 ⊢
  have hm9 : m ≤ 9223372036854775807 := Nat.le_trans hl1 hl2
  have HM := Lib.hid hm
  have HL := Lib.hid hl
  have HOK := Lib.hid hok
  clear h hl hok hm hl1 hl2
  cases fine with
  | false =>
    obtain ⟨k, rfl, hk, hne, hf⟩ := HOK.out.no rfl
    obtain ⟨b, off, cap', cu, he, hce, hint⟩ := HL.out.at_ hk
    injection he with e1 e2 e3
    subst e1
    obtain ⟨c, hc⟩ : ∃ c, c = lc.getD k [] := ⟨_, rfl⟩
    have h9 := HOK.out.li k hk
    rw [← hc] at hint hne hf h9
    have h0 := List.length_pos_iff.2 hne
    obtain ⟨ca, cc, rfl⟩ := ints_form hint
    obtain ⟨cn, hcn⟩ : ∃ cn, cn = c.length := ⟨_, rfl⟩
    rw [← hcn] at hce hint h0
    have sz1 : (k : Int) < (m : Int) := by have := HM.out; omega
    have sz0 : (0 : Int) ≤ (k : Int) := by omega
    have cn0 : (0 : Int) < (cn : Int) := by omega
    have HINT := Lib.hid hint
    have H9 := Lib.hid h9
    have HF := Lib.hid hf
    have hlt := World.block_lt_of_cell? w _ hce
    have HCE : Hid (∀ W, Below w.heap.size w W → W.cell? ⟨b, off + k, none⟩ = some (.slice ca cn cc)) := Lib.hid fun W hW => (hW.cell (p := ⟨b, off + k, none⟩) hlt).trans hce
    clear hint h9 hf hne hc hk hcn e2 e3 hlt hce
    go_enter Try.func21, Try.ntmps21
    go_wp2_with fail
    refine HLT.out.mono ?_
    rintro e w1 ⟨u, rfl, hcp⟩
    have q1 := HCE.out w1 hcp.2.2
    have HFA := Lib.hid (r22_False (HINT.out.below hcp.2.2) hcp.1.ints H9.out)
    rw [HF.out] at HFA
    have HB := Lib.hid hcp.2.2
    clear hcp
    go_wp2_with ((go_at_call 35; refine (HFA.out).mono ?_; rintro e w' ⟨rfl, rfl⟩))
    go_ret
    exact ⟨rfl, HB.out⟩
  | true =>
    obtain ⟨rfl, hall⟩ := HOK.out.yes rfl
    have HALL := Lib.hid hall
    clear hall
    go_enter Try.func21, Try.ntmps21
    go_wp2_with fail
    refine HLT.out.mono ?_
    rintro e w1 ⟨u, rfl, hcp⟩
    have HIU := Lib.hid hcp.1.ints
    have HB := Lib.hid hcp.2.2
    clear hcp
    go_wp2_with fail
    go_loopw [10] (fun i wr => ∃ k : Nat, k ≤ m ∧ i = .int .i64 k ∧ wr = w1) (fun i _ => m - (intOf i).toNat)
    case atStart => exact ⟨0, Nat.zero_le _, rfl, rfl⟩
    case round =>
      obtain ⟨k, hk, rfl, rfl⟩ := hrel
      by_cases hlt : (k : Int) < (m : Int)
      · have hkm : k < lc.length := by have := HM.out; omega
        obtain ⟨b, off, cap', cu, he, hce, hint⟩ := HL.out.at_ hkm
        injection he with e1 e2 e3
        subst e1
        have q1 := (HB.out.cell (p := ⟨b, off + k, none⟩) (World.block_lt_of_cell? w _ hce)).trans hce
        obtain ⟨c, hc⟩ : ∃ c, c = lc.getD k [] := ⟨_, rfl⟩
        have h9 := HOK.out.li k hkm
        have hal := HALL.out k hkm
        rw [← hc] at hint h9 hal
        have hfa := r22_False (hint.below HB.out) HIU.out h9
        have hte := r22_Tells (hint.below HB.out) HIU.out h9
        obtain ⟨ca, cc, rfl⟩ := ints_form hint
        obtain ⟨cn, hcn⟩ : ∃ cn, cn = c.length := ⟨_, rfl⟩
        rw [← hcn] at q1 hfa hte
        by_cases h0 : c = []
        · have hz : cn = 0 := by rw [hcn, h0]; rfl
          subst hz
          clear hce hint h9 hal hfa hte hc hkm h0 hcn e2 e3
          go_wp2_with fail
          go_roundw
          case rel => exact ⟨k + 1, by omega, by go_num, trivial⟩
          case measure => simp [intOf]; omega
        · obtain ⟨h1, h2⟩ := hal h0
          have cn0 : (0 : Int) < (cn : Int) := by have := List.length_pos_iff.2 h0; omega
          rw [h1] at hfa
          rw [h2] at hte
          have HFA := Lib.hid hfa
          have HTE := Lib.hid hte
          clear hce hint h9 hal hfa hte hc hkm h0 hcn e2 e3 h1 h2
          go_wp2_with (first | (go_at_call 35; refine (HFA.out).mono ?_; rintro e w' ⟨rfl, rfl⟩) | (go_at_call 36; refine (HTE.out).mono ?_; rintro e w' ⟨rfl, rfl⟩))
          go_roundw
          case rel => exact ⟨k + 1, by omega, by go_num, trivial⟩
          case measure => simp [intOf]; omega
      · go_wp2_with fail
        go_ret
        exact ⟨rfl, HB.out⟩
/-- Some answer. -/
def SomeB (w : World) (e : Ending) (w' : World) : Prop := ∃ b, e = .returned (.bool b) ∧ Below w.heap.size w w'
theorem LW.reason2 {B : Nat} {w0 w : World} {r : Nat → Nat} {wb t : Nat} {S : WS} (h : LW B w0 w r wb t S) (v : Int) : Calls Try.prog 48 #[.pointer (some ⟨t, 0, none⟩), .int .i64 v] w fun e w' => e = .returned (.int .i64 (S.t.reason v)) ∧ Below w.heap.size w w' := by
  obtain ⟨vl, vs, vd, us, xs, hV⟩ := h.at_
  obtain ⟨fp, hT, hfp⟩ := hV.tr
  exact trail_Reason hT v
set_option maxHeartbeats 4000000 in
set_option maxRecDepth 100000 in
theorem locked_ {B : Nat} {w0 w : World} {r : Nat → Nat} {wb t : Nat} {S : WS} (h : LW B w0 w r wb t S) (hti : TI S.t) (id : Int) :
    Calls Try.prog 24 #[.pointer (some ⟨t, 0, none⟩), .int .i64 id] w (SomeB w) := by
  have HLT := Lib.hid (h.lits (by have := hti.len; omega))
  obtain ⟨n, hn⟩ : ∃ n, n = S.t.l.length := ⟨_, rfl⟩
  have hn9 : n ≤ 9 := by rw [hn]; exact hti.len
  have HN := Lib.hid hn
  have HW := Lib.hid h
  have HTI := Lib.hid hti
  clear h hn hti
  go_enter Try.func24, Try.ntmps24
  go_wp2_with fail
  refine HLT.out.mono ?_
  rintro e w1 ⟨u, rfl, hcp⟩
  obtain ⟨ua, uc, rfl⟩ := ints_form hcp.1.ints
  have HIU := Lib.hid hcp.1.ints
  have HB := Lib.hid hcp.2.2
  rw [← HN.out]
  clear hcp
  go_wp2_with fail
  go_loopw [6] (fun i wr => ∃ k : Nat, k ≤ n ∧ i = .int .i64 k ∧ Below w.heap.size w wr ∧ Below w1.heap.size w1 wr) (fun i _ => n - (intOf i).toNat)
  case atStart => exact ⟨0, Nat.zero_le _, rfl, HB.out, Below.refl _ _⟩
  case round =>
    obtain ⟨k, hk, rfl, hB, hB1⟩ := hrel
    by_cases hlt : (k : Int) < (n : Int)
    · have hkn : k < S.t.l.length := by have := HN.out; omega
      obtain ⟨_, _, hle, -, -, -, hcell0⟩ := HIU.out
      injection hle with e1 e2 e3
      subst e1
      obtain ⟨b, off, rfl, hcell⟩ := ints_cells hcell0 hkn
      have q1 := hcell wr hB1
      obtain ⟨x, hx⟩ : ∃ x, x = S.t.l.getD k 0 := ⟨_, rfl⟩
      have hx9 : lit9 x := by rw [hx]; exact HTI.out.li _ (mem_getD hkn)
      rw [← hx] at q1
      have HAB := Lib.hid (r17_Abs x (show small x by unfold lit9 at hx9; unfold small; omega))
      have HRE := Lib.hid ((HW.out.below hB).reason2 (absI x))
      obtain ⟨rea, hrea⟩ : ∃ rea, rea = S.t.reason (absI x) := ⟨_, rfl⟩
      rw [← hrea] at HRE
      have HB2 := Lib.hid hB
      have HB3 := Lib.hid hB1
      clear hcell0 hcell hkn hx hx9 hrea hB hB1 e2 e3
      by_cases he : rea = id
      · have d0 : (rea == id) = true := by rw [beq_iff_eq]; exact he
        clear he
        go_wp2_with ((go_at_call 49; refine (HAB.out _).mono ?_; rintro e w' ⟨rfl, rfl⟩))
        refine HRE.out.mono ?_
        rintro e w2 ⟨rfl, hb2⟩
        have HB4 := Lib.hid (HB2.out.trans (hb2.mono HB2.out.size))
        clear hb2
        go_wp2_with fail
        go_ret
        exact ⟨true, rfl, HB4.out⟩
      · have d0 : (rea == id) = false := by rw [beq_eq_false_iff_ne]; exact he
        clear he
        go_wp2_with ((go_at_call 49; refine (HAB.out _).mono ?_; rintro e w' ⟨rfl, rfl⟩))
        refine HRE.out.mono ?_
        rintro e w2 ⟨rfl, hb2⟩
        have HB4 := Lib.hid (HB2.out.trans (hb2.mono HB2.out.size))
        have HB5 := Lib.hid (HB3.out.trans (hb2.mono HB3.out.size))
        clear hb2
        go_wp2_with fail
        go_roundw
        case rel => exact ⟨k + 1, by omega, by go_num, HB4.out, HB5.out⟩
        case measure => simp [intOf]; omega
    · have HB2 := Lib.hid hB
      clear hB hB1
      go_wp2_with fail
      go_ret
      exact ⟨false, rfl, HB2.out⟩
end Go.Proofs.Ytkaklgjdmlddmaa
/-
  Chapter 22, PLAIN and small steps: what WatchRuns keeps between two acts.
-/
namespace Go.Proofs.Ytkaklgjdmlddmaa
open Go.ChangeShapes Go.WideShapes Go.ChangeAt Go.RowKit
set_option linter.unusedVariables false
set_option linter.unusedSimpArgs false
attribute [local go_sem ↓] Go.wp_at_zero Go.wp_at_succ
abbrev Any1 : Int → Prop := fun _ => True
/-- Behind a Run. -/
def HMode (og lc : List (List Int)) (k : Nat) (id : Int) (fine : Bool) (S : WS) : Prop :=
  (0 ≤ S.bk ∧ fine = false ∧ id = S.bk ∧ AInv og 0 S ∧ lc = og) ∨ (S.bk < 0 ∧ EInv og lc Any1 (9 * k) id fine S)
/-- Ahead of a Run. -/
def MMode (og lc : List (List Int)) (k : Nat) (S : WS) : Prop :=
  (0 ≤ S.bk ∧ AInv og 0 S ∧ lc = og) ∨ (S.bk < 0 ∧ Pre og lc Any1 (9 * (k + 1)) S)
theorem HMode.ti {og lc : List (List Int)} {k : Nat} {id : Int} {fine : Bool} {S : WS} (h : HMode og lc k id fine S) : TI S.t := by
  rcases h with ⟨-, -, -, h, -⟩ | ⟨-, h⟩
  · exact h.inv.1.ti
  · exact h.inv.1.ti
theorem HMode.stay {og lc : List (List Int)} {k : Nat} {id : Int} {fine : Bool} {S : WS} (h : HMode og lc k id fine S) (hk : k ≤ 100) : MMode og lc k S := by
  rcases h with ⟨h1, h2, -, h3, h4⟩ | ⟨h1, h2⟩
  · exact .inl ⟨h1, h3, h4⟩
  · exact .inr ⟨h1, (h2.inv.mono (fun _ h => h) (by omega) (by omega)).pre⟩
theorem HMode.fine {og lc : List (List Int)} {k : Nat} {id : Int} {S : WS} (h : HMode og lc k id true S) : S.bk < 0 ∧ EInv og lc Any1 (9 * k) id true S := by
  rcases h with ⟨-, h, -⟩ | h
  · cases h
  · exact h
theorem HMode.decide {og lc : List (List Int)} {k : Nat} {id : Int} {S : WS} (h : HMode og lc k id true S) (hk : k ≤ 100) {x : Int} (hx : lit9 x) (hf : S.t.isFree x = true) : MMode og lc k { S with t := S.t.up.put x (-1) } := by
  obtain ⟨h1, h2⟩ := h.fine
  have hv := (free9 h2.inv.1.ti.ms hx).1 hf
  exact .inr ⟨h1, ((h2.inv.decide (h2.yes rfl).2 hx hv (D' := Any1) (fun _ h => h) trivial).mono (fun _ h => h) (by omega) (by omega)).pre⟩
theorem HMode.back {og lc : List (List Int)} {k : Nat} {id : Int} {fine : Bool} {S : WS} (h : HMode og lc k id fine S) (hk : k ≤ 100) (level : Nat) : MMode og lc k { S with t := S.t.back level } := by
  rcases h with ⟨h1, h2, -, h3, h4⟩ | ⟨h1, h2⟩
  · rw [back_same (by rw [h3.lv]; simp)]; exact .inl ⟨h1, h3, h4⟩
  · have := h2.inv.back level (by omega)
    exact .inr ⟨h1, this⟩
theorem lo_li {og lc : List (List Int)} {D : Int → Prop} {N : Nat} {S : WS} (h : Inv0 og lc D N S) {k : Nat} (hk : k < og.length) : Lit9s (lc.getD k []) := by
  rcases h.lo k hk with e | e
  · rw [e]; intro x hx; simp at hx
  · rw [e]; exact (h.og9 k hk).li
/-- What a Run answers is right. -/
theorem HMode.ri {og lc : List (List Int)} {k : Nat} {id : Int} {fine : Bool} {S : WS} (h : HMode og lc k id fine S) (hlc : lc.length = og.length) : RiOk lc S.t.l id fine := by
  rcases h with ⟨h1, rfl, rfl, h3, rfl⟩ | ⟨h1, h2⟩
  · refine ⟨fun j hj => lo_li h3.inv.1 hj, fun _ => ?_, fun h => by cases h⟩
    obtain ⟨j, q1, q2, q3⟩ := h3.br h1
    exact ⟨j, q1, q2, (h3.inv.1.og9 j q2).ne, fal_iff.2 fun y hy => ⟨fun hm => h3.inv.1.ti.cons hm (q3 y hy), q3 y hy⟩⟩
  · refine ⟨fun j hj => lo_li h2.inv.1 (by omega), fun hf => ?_, fun hf => ⟨(h2.yes hf).1, fun j hj hne => h2.inv.closed h1 (h2.yes hf).2 hj hne hlc⟩⟩
    obtain ⟨j, q1, q2, q3, q4⟩ := h2.no hf
    exact ⟨j, q1, by omega, q3, fal_iff.2 fun y hy => ⟨fun hm => h2.inv.1.ti.cons hm (q4 y hy), q4 y hy⟩⟩
theorem Inv0.fol {og lc : List (List Int)} {D : Int → Prop} {N : Nat} {S : WS} (h : Inv0 og lc D N S) : FolOk og (itemsOf S.t) := fun i hi => by
  have hil : i < S.t.l.length := by unfold itemsOf at hi; rwa [List.length_map] at hi
  obtain ⟨x, hx⟩ : ∃ x, x = S.t.l.getD i 0 := ⟨_, rfl⟩
  have e : (itemsOf S.t).getD i (0, 0, 0) = (x, S.t.level (absI x), S.t.reason (absI x)) := by
    unfold itemsOf; rw [hx]; simp [List.getD, hil]
  have e2 : ((itemsOf S.t).take i).map (·.1) = S.t.l.take i := by
    unfold itemsOf
    rw [← List.map_take, List.map_map]
    exact List.map_id _
  rw [e, e2]
  show S.t.reason (absI x) < 0 ∨ ∃ k : Nat, S.t.reason (absI x) = (k : Int) ∧ k < og.length ∧ telR (og.getD k []) (S.t.l.take i) = x
  by_cases hr : S.t.reason (absI x) < 0
  · exact .inl hr
  · right
    have hf := h.fo i hil (by rw [← hx]; omega)
    unfold Told at hf
    rw [← hx] at hf
    obtain ⟨k, g1, g2, g3, g4⟩ := hf
    have hxl : x ∈ S.t.l := by rw [hx]; exact mem_getD hil
    have sub : ∀ y ∈ S.t.l.take i, y ∈ S.t.l := fun y hy => List.mem_of_mem_take hy
    refine ⟨k, g1, g2, tel_is (h.ti.li x hxl).1 g3 (val_zero (fun hm => ?_) (fun hm => h.ti.cons hxl (sub _ hm))) (fun y hy hne => val_neg (fun hm => h.ti.cons (sub _ hm) (sub _ (g4 y hy hne))) (g4 y hy hne))⟩
    obtain ⟨j, hj, e⟩ := List.getElem_of_mem hm
    rw [List.length_take] at hj
    rw [List.getElem_take] at e
    have := nodup_at h.ti.nd (i := j) (j := i) (by omega) hil (by rw [getD_mem' (by omega), e, hx])
    omega
theorem HMode.fol {og lc : List (List Int)} {k : Nat} {id : Int} {fine : Bool} {S : WS} (h : HMode og lc k id fine S) : FolOk og (itemsOf S.t) := by
  rcases h with ⟨-, -, -, h, -⟩ | ⟨-, h⟩
  · exact h.inv.1.fol
  · exact h.inv.1.fol
/-- A Run, whatever came. -/
theorem run_any {B : Nat} {w0 w : World} {r : Nat → Nat} {wb t : Nat} {S : WS} {og lc : List (List Int)} {k : Nat} (h : LW B w0 w r wb t S) (hm : MMode og lc k S) :
    Calls Try.prog 12 #[.pointer (some ⟨wb, 0, none⟩)] w fun e w' => ∃ id fine S' r', e = .returned (.tuple #[.int .i64 id, .bool fine]) ∧ HMode og lc (k + 1) id fine S' ∧ LW B w0 w' r' wb t S' ∧ Chg (fun b => B ≤ b ∧ r b ≠ 0) w w' ∧ ∀ b, b < w.heap.size → r' b = r b := by
  rcases hm with ⟨h1, h2, h3⟩ | ⟨h1, h2⟩
  · refine (Run_broken h.at_ h1).mono ?_
    rintro e w' ⟨rfl, rfl⟩
    exact ⟨S.bk, false, S, r, rfl, .inl ⟨h1, rfl, rfl, h2, h3⟩, h, Chg.refl _ _, fun _ _ => rfl⟩
  · refine (run_ (D := Any1) [] h h2 h1 (fun x hx => by simp at hx)).mono ?_
    rintro e w' ⟨id, fine, S', r', rfl, ⟨hE, -⟩, q⟩
    exact ⟨id, fine, S', r', rfl, .inr ⟨hE.bk, hE⟩, q⟩
/-- A trail is undone. -/
theorem back_any {B : Nat} {w0 w : World} {r : Nat → Nat} {wb t : Nat} {S : WS} (h : LW B w0 w r wb t S) (hti : TI S.t) (level : Nat) :
    Calls Try.prog 23 #[.pointer (some ⟨t, 0, none⟩), .int .i64 level] w fun e w' => ∃ v r', e = .returned v ∧ LW B w0 w' r' wb t { S with t := S.t.back level } ∧ Chg (fun b => B ≤ b ∧ r b ≠ 0) w w' ∧ ∀ b, b < w.heap.size → r' b = r b := by
  obtain ⟨vl, vs, vd, us, xs, hV⟩ := h.at_
  obtain ⟨fp, hT, hfp⟩ := hV.tr
  rcases Nat.lt_or_ge level S.t.lv.length with hl | hl
  · refine (trail_Back_some hT hti.ok level hl level (.inl rfl)).mono ?_
    rintro e w' ⟨u, rfl, -, -, hD⟩
    obtain ⟨r', q1, q2, q3⟩ := hV.done h.hB hfp hD
    obtain ⟨r2, q⟩ := h.post ⟨r', ⟨_, _, _, _, _, q1⟩, q2, q3⟩
    exact ⟨u, r2, rfl, q⟩
  · rw [back_same hl]
    refine (trail_Back_none hT level (by omega)).mono ?_
    rintro e w' ⟨rfl, rfl⟩
    exact ⟨_, r, rfl, h, Chg.refl _ _, fun _ _ => rfl⟩
/-- A clause goes. -/
theorem rem_any {B : Nat} {w0 w : World} {r : Nat → Nat} {wb t : Nat} {S : WS} {og lc : List (List Int)} {k i : Nat} {id : Int} (h : LW B w0 w r wb t S) (hm : HMode og lc k id true S) (hk : k ≤ 100) (hlc : lc.length = og.length) (hi : i < lc.length) :
    Calls Try.prog 18 #[.pointer (some ⟨wb, 0, none⟩), .int .i64 i] w fun e w' => e = .returned (.bool (decide (0 < (lc.getD i []).length))) ∧ ∃ S' r', MMode og (lc.set i []) k S' ∧ isB S' (i : Int) = false ∧ LW B w0 w' r' wb t S' ∧ Chg (fun b => B ≤ b ∧ r b ≠ 0) w w' ∧ ∀ b, b < w.heap.size → r' b = r b := by
  obtain ⟨hb, hE⟩ := hm.fine
  have hp := hE.inv.1.cp i (by omega)
  have hbk : S.bk ≠ (i : Int) := by omega
  by_cases hc : S.cl.getD i [] = []
  · have hl0 : lc.getD i [] = [] := by rw [hc] at hp; exact hp.nil_eq.symm
    have hib : isB S (i : Int) = false := by
      unfold isB
      simp only [Int.toNat_natCast]
      rw [hc]; simp
    have hset : lc.set i [] = lc := by
      have := @set_self lc i
      rwa [hl0] at this
    rw [hl0]
    refine (Remove_no h.at_ i hib).mono ?_
    rintro e w' ⟨rfl, hbw⟩
    refine ⟨rfl, S, r, ?_, hib, h.below hbw, Chg.of_below hbw, fun _ _ => rfl⟩
    rw [hset]
    exact hm.stay hk
  · obtain ⟨ho, hlo, -, c9⟩ := hE.inv.1.cl9 hc
    have hib : isB S (i : Int) = true := by
      unfold isB
      simp only [Int.toNat_natCast]
      rw [hE.inv.1.cn]
      rw [decide_eq_true (by omega), Bool.true_and]
      cases hq : S.cl.getD i [] with
      | nil => exact absurd hq hc
      | cons a b => rfl
    obtain ⟨hro, hinv⟩ := hE.inv.remove hc hi hbk
    have hl0 : 0 < (lc.getD i []).length := by rw [← hp.length_eq]; exact List.length_pos_iff.2 hc
    rw [decide_eq_true hl0]
    refine (Remove_ h.at_ h.hB i hib hro).mono ?_
    rintro e w' ⟨rfl, hP⟩
    obtain ⟨r', q1, q2, q3⟩ := h.post hP
    refine ⟨rfl, removeF S i, r', .inr ⟨?_, (hinv.mono (fun _ h => h) (by omega) (by omega)).pre⟩, ?_, q1, q2, q3⟩
    · show (if S.bk = (i : Int) then -1 else S.bk) < 0
      rw [if_neg hbk]; exact hb
    · unfold isB removeF
      simp only [Int.toNat_natCast]
      rw [getD_set_self _ _ _ _ (by rw [hE.inv.1.cn]; exact ho)]
      simp
/-- A list of the law's own: its cells. -/
theorem LS.at_ {B : Nat} {w : World} {r : Nat → Nat} {v : Value} {xss : List (List Int)} (h : LS B w r v xss) {i : Nat} (hi : i < xss.length) :
    ∃ g cap a c, v = .slice (some ⟨g, 0, none⟩) xss.length cap ∧ (B ≤ g ∧ r g = 0) ∧ ∀ W, Chg (fun b => B ≤ b ∧ r b ≠ 0) w W → W.cell? ⟨g, i, none⟩ = some (.slice a (xss.getD i []).length c) ∧ W.frozen? ⟨g, i, none⟩ = false ∧ g < W.heap.size := by
  obtain ⟨us, h1, h2, h3, h4⟩ := h
  obtain ⟨g, cap, rfl, q1, q2, -, -⟩ := row_at1 h1 hi
  obtain ⟨a, c, hu⟩ := ints_form (h4 i hi).1
  have hg := h2 g rfl
  refine ⟨g, cap, a, c, rfl, hg, fun W hW => ?_⟩
  have h5 := h1.chg hW (fun b hb hb' => hb'.2 (h2 b hb).2)
  obtain ⟨g', cap', e, p1, p2, -, -⟩ := row_at1 h5 hi
  injection e with e1
  injection e1 with e1
  injection e1 with e1
  subst e1
  rw [hu] at p1
  exact ⟨p1, p2, World.block_lt_of_cell? W _ p1⟩
/-- One list is let go. -/
theorem LS.set_nil {B : Nat} {w : World} {r : Nat → Nat} {g n cap : Nat} {xss : List (List Int)} (h : LS B w r (.slice (some ⟨g, 0, none⟩) n cap) xss) (hn : n = xss.length) {i : Nat} (hi : i < xss.length) :
    LS B (w.setCell ⟨g, i, none⟩ (.slice none 0 0)) r (.slice (some ⟨g, 0, none⟩) n cap) (xss.set i []) ∧ Chg (fun b => B ≤ b ∧ r b = 0) w (w.setCell ⟨g, i, none⟩ (.slice none 0 0)) := by
  obtain ⟨us, h1, h2, h3, h4⟩ := h
  have hg := h2 g rfl
  have hc : Chg (fun b => B ≤ b ∧ r b = 0) w (w.setCell ⟨g, i, none⟩ (.slice none 0 0)) := (Chg.refl _ w).setCell (.inl hg) _
  refine ⟨⟨us.set i (.slice none 0 0), ?_, h2, by simp [h3], fun j hj => ?_⟩, hc⟩
  · subst hn
    have := h1.set1 i (.slice none 0 0)
    rw [List.length_set]
    exact this
  · rw [List.length_set] at hj
    by_cases e : i = j
    · subst e
      rw [getD_set_self _ _ _ _ (by omega), getD_set_self _ _ _ _ hi]
      exact ⟨ints_nil _, fun g hg => by simp [Value.ownBlock] at hg⟩
    · rw [getD_set_ne _ _ _ _ _ e, getD_set_ne _ _ _ _ _ e]
      exact ⟨(h4 j hj).1.chg hc (fun g' hg' e' => by have := (h4 j hj).2 g' hg'; have := e'.1; omega), (h4 j hj).2⟩
/-- The law's own lists, once more. -/
theorem LS.copy {B : Nat} {w w1 : World} {r : Nat → Nat} {v v' : Value} {xss : List (List Int)} {us : List Value} (h1 : Row w 23 1 v xss.length us) (h2 : ∀ g, v.ownBlock = some g → B ≤ g ∧ r g = 0) (h3 : us.length = xss.length) (h4 : ∀ j, j < xss.length → Ints w (us.getD j undef) (xss.getD j []) ∧ ∀ g, (us.getD j undef).ownBlock = some g → g < B)
    (hB : B ≤ w.heap.size) (hi : ∀ b, w.heap.size ≤ b → r b = 0) (hp : AppPost (w.alloc (.cells #[] 23)) 23 1 (.slice (some ⟨w.heap.size, 0, none⟩) 0 0) xss.length us v' w1) : LS B w1 r v' xss ∧ Below w.heap.size w w1 := by
  obtain ⟨p1, p2, p3⟩ := hp
  have hA : Below w.heap.size w (w.alloc (.cells #[] 23)) := (Below.refl _ _).alloc (Nat.le_refl _) _
  have hch : Below w.heap.size w w1 := hA.trans (p2.below (by simp) (fun b hb => by have : some w.heap.size = some b := hb; injection this with e; omega))
  refine ⟨⟨us, p1, fun g hg => ?_, h3, fun j hj => ⟨(h4 j hj).1.below hch, (h4 j hj).2⟩⟩, hch⟩
  rcases p3 with e | e
  · rw [e] at hg
    have : some w.heap.size = some g := hg
    injection this with e; exact ⟨by omega, hi g (by omega)⟩
  · rw [e] at hg; injection hg with hg; simp at hg; exact ⟨by omega, hi g (by omega)⟩
end Go.Proofs.Ytkaklgjdmlddmaa
