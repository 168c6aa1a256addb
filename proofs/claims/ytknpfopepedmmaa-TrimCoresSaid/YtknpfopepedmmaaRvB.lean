/-
  Package rup: what was assumed is taken back, walked.
-/
import Derived.Test.YtknpfopepedmmaaRuK
import Derived.Defers
namespace Go.Proofs.Ytknpfopepedmmaa
open Go Go.ChangeShapes Go.WideShapes Go.ChangeAt Go.RowKit Go.Maps
set_option linter.unusedVariables false
set_option linter.unusedSimpArgs false
/-- The trail is cut to what holds whatever is asked. -/
def RS.cut (S : RS) : RS := { S with tr := S.tr.take S.base }
def delK (f : Int → Option (Bool × Int)) (l : List Int) : Int → Option (Bool × Int) := fun v => if (l.any fun x => decide (vr x = v)) = true then none else f v
theorem delK_nil (f : Int → Option (Bool × Int)) : delK f [] = f := by funext v; simp [delK]
theorem delK_next (f : Int → Option (Bool × Int)) (l : List Int) {k : Nat} (hk : k < l.length) : upd (delK f (l.take k)) (vr (l.getD k 0)) none = delK f (l.take (k + 1)) := by
  have e0 : l.getD k 0 = l[k] := by rw [List.getD_eq_getElem?_getD, List.getElem?_eq_getElem hk]; rfl
  have hs : l.take (k + 1) = l.take k ++ [l.getD k 0] := by rw [e0, List.take_succ_eq_append_getElem hk]
  funext v
  unfold upd delK
  rw [hs, List.any_append, List.any_cons, List.any_nil, Bool.or_false]
  by_cases e : v = vr (l.getD k 0)
  · rw [if_pos e, if_pos (by rw [e]; simp)]
  · rw [if_neg e]
    have : decide (vr (l.getD k 0) = v) = false := by rw [decide_eq_false_iff_not]; exact fun h => e h.symm
    rw [this, Bool.or_false]
theorem RS.cut_T (S : RS) : S.cut.T = S.T.take S.base := by simp [RS.cut, RS.T, List.map_take]
theorem RS.T_split (S : RS) : S.T = S.T.take S.base ++ S.T.drop S.base := (List.take_append_drop _ _).symm
theorem markF_cut {S : RS} (hc : Con S.T) : delK (markF S) (S.T.drop S.base) = markF S.cut := by
  funext v
  unfold delK
  by_cases h0 : v ≤ 0
  · have e1 : markF S v = none := by unfold markF; rw [if_pos h0]
    have e2 : markF S.cut v = none := by unfold markF; rw [if_pos h0]
    rw [e1, e2]; split <;> rfl
  · have nd := hc.nd
    rw [S.T_split, List.nodup_append] at nd
    unfold markF
    rw [if_neg h0, if_neg h0]
    show _ = (List.find? _ (S.tr.take S.base)).map _
    have hsp : S.tr = S.tr.take S.base ++ S.tr.drop S.base := (List.take_append_drop _ _).symm
    by_cases ha : ((S.T.drop S.base).any fun x => decide (vr x = v)) = true
    · rw [if_pos ha]
      obtain ⟨x, hx, hxv⟩ := List.any_eq_true.1 ha
      have hxv : vr x = v := by simpa using hxv
      have hn : (S.tr.take S.base).find? (fun e => decide (e.1 = v ∨ e.1 = -v)) = none := by
        rw [List.find?_eq_none]
        intro e he
        simp only [decide_eq_true_eq]
        intro hev
        have hm : e.1 ∈ S.T.take S.base := by
          have : e.1 ∈ (S.tr.take S.base).map (·.1) := List.mem_map.2 ⟨e, he, rfl⟩
          rw [List.map_take] at this
          exact this
        have hxT : x ∈ S.T := List.mem_of_mem_drop hx
        have heT : e.1 ∈ S.T := List.mem_of_mem_take hm
        have hne : e.1 ≠ x := fun e2 => nd.2.2 _ hm _ hx e2
        have : e.1 = -x := by unfold vr at hxv; omega
        rw [this] at heT
        exact hc.co x hxT heT
      rw [hn]; rfl
    · rw [if_neg ha]
      have hn : (S.tr.drop S.base).find? (fun e => decide (e.1 = v ∨ e.1 = -v)) = none := by
        rw [List.find?_eq_none]
        intro e he
        simp only [decide_eq_true_eq]
        intro hev
        refine ha (List.any_eq_true.2 ⟨e.1, ?_, ?_⟩)
        · have : e.1 ∈ (S.tr.drop S.base).map (·.1) := List.mem_map.2 ⟨e, he, rfl⟩
          rw [List.map_drop] at this
          exact this
        · have : vr e.1 = v := by unfold vr; omega
          simpa using this
      rw [hsp, List.find?_append, hn, Option.or_none, List.take_append_drop]
section
variable {w : World} {r : Nat} {S : RS} {vl vt : Value} {bt bo bm nt no nm : Nat} {us : List Value} {ho : (Int → Option (Option (Nat × Nat × Nat)))}
theorem KP.cut (h : KP w r S vl vt bt bo bm nt no nm us ho) (hc : Con S.T) (hb : S.base ≤ S.tr.length) {w1 : World} (hm : MapF eMark w1 bm nm (delK (markF S) (S.T.drop S.base))) (c1 : Chg (fun k => k = bm) w w1) {a : Option Addr} {cap : Nat} (hv : vt = .slice a S.tr.length cap) :
    KP (w1.setCell ⟨r, 4, none⟩ (.slice a S.base cap)) r S.cut vl (.slice a S.base cap) bt bo bm nt no nm us ho ∧ Chg (fun k => k = r ∨ k = bm) w (w1.setCell ⟨r, 4, none⟩ (.slice a S.base cap)) ∧ (Value.slice a S.base cap).ownBlock = vt.ownBlock := by
  obtain ⟨d1, d2, d3, d4, d5, d6⟩ := h.d
  have own : (Value.slice a S.base cap).ownBlock = vt.ownBlock := by
    rw [hv]
    cases a <;> rfl
  have hb1 : Blk w1 r 72 _ := h.b.chg c1 d3
  have c3 : Chg (fun k => k = r ∨ k = bm) w (w1.setCell ⟨r, 4, none⟩ (.slice a S.base cap)) := (c1.mono (S' := fun k => k = r ∨ k = bm) (fun i hi => .inr hi)).setCell (p := ⟨r, 4, none⟩) (.inl (.inl rfl)) _
  have ks : ∀ g, KS r bt bo bm vl (.slice a S.base cap) ho g ↔ KS r bt bo bm vl vt ho g := fun g => by unfold KS; rw [own]
  have ecl : S.cut.cl.length = S.cl.length := rfl
  have eof : ∀ x, S.cut.ofL x = S.ofL x := fun x => rfl
  have eT : S.cut.tr.length = S.base := by show (S.tr.take S.base).length = _; rw [List.length_take]; omega
  refine ⟨⟨hb1.set_ 4 _, h.l.chg c3 (fun g hg hS => ?_), ((h.c.chg c3 (fun g _ hS => ?_)).mono (fun g _ hS => (ks g).1 hS)), h.t.chg c3 (fun hS => ?_), h.o.chg c3 (fun hS => ?_), fun x => (h.of x).chg c3 (fun g hg hS => ?_), ?_, ?_, h.d, fun g hg => ?_, fun g hg => ?_, fun g hg => ?_, h.sx⟩, c3, own⟩
  · obtain ⟨a1, a2, a3, a4, a5⟩ := h.sl g hg
    rcases hS with e | e
    · exact a1 e
    · exact a4 e
  · rcases hS with e | e
    · exact .inl e
    · exact .inr (.inr (.inr (.inl e)))
  · rcases hS with e | e
    · exact d1 e.symm
    · exact d5 e
  · rcases hS with e | e
    · exact d2 e.symm
    · exact d6 e
  · obtain ⟨a1, a2, a3, a4, a5, a6⟩ := h.sh g ⟨x, hg⟩
    rcases hS with e | e
    · exact a1 e
    · exact a4 e
  · rw [← markF_cut hc]
    exact hm.chg (S := fun k => k = r) ((Chg.refl (fun k => k = r) w1).setCell (p := ⟨r, 4, none⟩) (.inl rfl) _) (fun e => d3 e.symm)
  · rw [eT, S.cut_T]
    have htr : Row (w1.setCell ⟨r, 4, none⟩ (.slice a S.base cap)) 3 1 vt S.tr.length (S.T.map iv) := h.tr.chg c3 (fun g hg hS => by
      obtain ⟨a1, a2, a3, a4⟩ := h.st g hg
      rcases hS with e | e
      · exact a1 e
      · exact a4 e)
    rw [hv] at htr
    rcases htr.form with ⟨e, e0, e1⟩ | ⟨g, cap', e, -⟩
    · injection e with ea eb ec
      subst ea ec
      have hb0 : S.base = 0 := by omega
      have hT0 : S.T = [] := List.eq_nil_of_length_eq_zero (by rw [S.T_len]; omega)
      rw [hb0, hT0]
      exact World.ownsRow_nil _ _ _ _
    · injection e with ea eb ec
      subst ea ec
      have := htr.take S.base hb
      rw [Nat.mul_one] at this
      rw [List.map_take]
      exact this
  · obtain ⟨a1, a2, a3, a4, a5⟩ := h.sl g hg
    exact ⟨a1, a2, a3, a4, by rw [own]; exact a5⟩
  · exact h.st g (by rw [← own]; exact hg)
  · obtain ⟨a1, a2, a3, a4, a5, a6⟩ := h.sh g hg
    exact ⟨a1, a2, a3, a4, a5, by rw [own]; exact a6⟩
/-- Behind the undoing. -/
def CutQ (w : World) (r : Nat) (S : RS) (vl vt : Value) (bt bo bm nt no nm : Nat) (us : List Value) (ho : (Int → Option (Option (Nat × Nat × Nat)))) (w' : World) : Prop :=
  ∃ vt', KP w' r S.cut vl vt' bt bo bm nt no nm us ho ∧ Chg (fun k => k = r ∨ k = bm) w w' ∧ vt'.ownBlock = vt.ownBlock
set_option maxHeartbeats 4000000 in
set_option maxRecDepth 100000 in
theorem undo_ (h : KP w r S vl vt bt bo bm nt no nm us ho) (hc : Con S.T) (hb : S.base ≤ S.tr.length) (u : FrameMode) :
    CallsD Try.prog 48 #[kp r] u w fun e u' w' => u' = u ∧ (e = .returned (.tuple #[]) ∧ CutQ w r S vl vt bt bo bm nt no nm us ho w') := by
  have c3 : w.cell? ⟨r, 3, none⟩ = some (.map (some bm)) := h.b.cell 3
  have c4 : w.cell? ⟨r, 4, none⟩ = some vt := h.b.cell 4
  have c5 : w.cell? ⟨r, 5, none⟩ = some (.int .i64 (S.base : Nat)) := h.b.cell 5
  have hlen : S.tr.length ≤ 1073741824 := by rw [← S.T_len]; exact hc.len
  have HK := Lib.hid h
  have HC := Lib.hid hc
  have HB := Lib.hid hb
  obtain ⟨a, cap, hv, hcp⟩ : ∃ a c, vt = .slice a S.tr.length c ∧ S.tr.length ≤ c := by
    rcases h.tr.form with ⟨e, e0, -⟩ | ⟨g, cap, e, hc', -⟩
    · exact ⟨none, 0, by rw [e, e0], by omega⟩
    · exact ⟨_, _, e, hc'⟩
  have HV := Lib.hid hv
  obtain ⟨n, hn⟩ : ∃ n, n = S.tr.length := ⟨_, rfl⟩
  obtain ⟨b, hbs⟩ : ∃ b, b = S.base := ⟨_, rfl⟩
  rw [hv, ← hn] at c4
  rw [← hbs] at c5
  rw [← hn] at hlen hcp
  have hbn : b ≤ n := by omega
  obtain ⟨D, hD⟩ : ∃ D, D = S.T.drop S.base := ⟨_, rfl⟩
  have HD := Lib.hid hD
  obtain ⟨m, hm⟩ : ∃ m, m = n - b := ⟨_, rfl⟩
  have HM : Hid (m = D.length) := Lib.hid (by rw [hD, List.length_drop, S.T_len]; omega)
  have HN := Lib.hid hn
  have HBS := Lib.hid hbs
  have hmi : m ≤ 1073741824 := by omega
  have HMI : Hid (b + m = n) := Lib.hid (by omega)
  clear h hc hb hv hn hbs hD hm
  go_enter_d Try.func48, Try.ntmps48
  have hbi : (b : Int) ≤ (n : Int) := by omega
  go_wp2
  go_quiet (fail)
  rename_i nq
  generalize hA : (if cap = b then a else Option.map (fun x => x.add b) a) = A
  have H0 : Hid (MapF eMark (w.drewN nq) bm nm (delK (markF S) (D.take 0)) ∧ Chg (fun k => k = bm) w (w.drewN nq)) := Lib.hid ⟨by
    rw [List.take_zero, delK_nil]
    exact HK.out.m.chg (S := fun _ => False) ((Chg.refl (fun _ => False) w).drewN nq) (fun e => e), (Chg.refl _ w).drewN nq⟩
  have HCELL : Hid (∀ W, Chg (fun k => k = bm) w W → ∀ k, k < m → ∃ g, A = some ⟨g, b, none⟩ ∧ W.cell? ⟨g, b + k, none⟩ = some (.int .i64 (D.getD k 0))) := Lib.hid fun W hW k hk => by
    have hMI := HMI.out
    have htr : Row W 3 1 vt S.tr.length (S.T.map iv) := HK.out.tr.chg hW (fun g hg e => (HK.out.st g hg).2.2.2 e)
    have hv := HV.out
    rcases htr.form with ⟨e, e0, e1⟩ | ⟨g, cap', e, h1, -, -, hc⟩
    · have := HN.out; omega
    · rw [hv] at e
      injection e with ea eb ec
      refine ⟨g, ?_, ?_⟩
      · rw [← hA, if_neg (by omega), ea]
        simp [Addr.add]
        omega
      · rw [(hc (b + k) (by rw [List.length_map, S.T_len]; have := HN.out; omega)).1, HD.out, ← HBS.out]
        rw [List.getD_eq_getElem?_getD, List.getElem?_map, List.getD_eq_getElem?_getD, List.getElem?_drop]
        rw [List.getElem?_eq_getElem (show b + k < S.T.length by rw [S.T_len]; have := HN.out; omega)]
        rfl
  clear c3 c4 c5 hA
  go_wp2
  go_loopw [14] (fun i wr => ∃ k : Nat, k ≤ m ∧ i = .int .i64 (k : Nat) ∧ MapF eMark wr bm nm (delK (markF S) (D.take k)) ∧ Chg (fun k => k = bm) w wr) (fun i _ => m - (intOf i).toNat)
  case atStart => exact ⟨0, Nat.zero_le _, rfl, H0.out⟩
  case round =>
    obtain ⟨k, hk, rfl, hM2, hC2⟩ := hrel
    have HM2 := Lib.hid hM2
    have HC2 := Lib.hid hC2
    by_cases hlt : (k : Int) < ((n - b : Nat) : Int)
    · obtain ⟨g, hA2, q1⟩ := HCELL.out wr hC2 k (by have := HMI.out; omega)
      subst hA2
      obtain ⟨l, hl⟩ : ∃ l, l = D.getD k 0 := ⟨_, rfl⟩
      rw [← hl] at q1
      have q3 : wr.cell? ⟨r, 3, none⟩ = some (.map (some bm)) := (HK.out.b.chg hC2 HK.out.d.2.2.1).cell 3
      have hlB : lit30 l := by
        have hkD : k < D.length := by have := HM.out; have := HMI.out; omega
        have : D.getD k 0 ∈ D := by rw [List.getD_eq_getElem?_getD, List.getElem?_eq_getElem hkD]; exact List.getElem_mem hkD
        rw [hl]
        rw [HD.out] at this ⊢
        exact HC.out.li _ (List.mem_of_mem_drop this)
      have hw : IntKind.i64.wrap (-l) = -l := IntWalk.i64_in _ (by obtain ⟨a, b, c⟩ := hlB; omega)
      have hmx : (if l < -l then -l else l) = vr l := by unfold vr; split <;> omega
      obtain ⟨w2, hdel, hM3, hC3⟩ := hM2.drop tmM hlB.in64 0
      have HF : Hid (MapF eMark w2 bm nm (delK (markF S) (D.take (k + 1))) ∧ Chg (fun k => k = bm) w w2) := Lib.hid ⟨by
        rw [← delK_next _ _ (show k < D.length by have := HM.out; have := HMI.out; omega), ← hl]
        exact hM3, HC2.out.trans hC3 (fun i hi => .inl hi)⟩
      have hk1 : k + 1 ≤ m := by have := HMI.out; omega
      clear hM2 hC2 hM3 hC3 hl
      go_wp2
      go_roundw
      case rel => exact ⟨k + 1, hk1, by go_num, HF.out⟩
      case measure => simp [intOf]; omega
    · have hkm : k = m := by have := HMI.out; omega
      have hM9 : MapF eMark wr bm nm (delK (markF S) (S.T.drop S.base)) := by
        have := hM2
        rw [hkm, HM.out, List.take_length, HD.out] at this
        exact this
      obtain ⟨f1, f2, f3⟩ := HK.out.cut HC.out HB.out hM9 hC2 HV.out
      have HF : Hid (CutQ w r S vl vt bt bo bm nt no nm us ho ((wr.setCell ⟨r, 4, none⟩ (.slice a b cap)).drew)) := Lib.hid ⟨_, by rw [HBS.out]; exact f1.below (Below.refl _ _).drew, by rw [HBS.out]; exact f2.drew, f3⟩
      have hB9 := HK.out.b.chg hC2 HK.out.d.2.2.1
      have q4 : wr.cell? ⟨r, 4, none⟩ = some (.slice a n cap) := by have := hB9.cell 4; rw [HV.out, ← HN.out] at this; exact this
      have f4 := hB9.frozen 4
      have q5 : wr.cell? ⟨r, 5, none⟩ = some (.int .i64 (b : Nat)) := by have := hB9.cell 5; rw [HBS.out]; exact this
      clear hM2 hC2 hM9 f1 f2 f3 hB9 hkm
      have hbc : (b : Int) ≤ (cap : Int) := by omega
      go_wp2
      go_region
      go_wp2
      go_end0
      exact ⟨rfl, HF.out⟩
end
end Go.Proofs.Ytknpfopepedmmaa
