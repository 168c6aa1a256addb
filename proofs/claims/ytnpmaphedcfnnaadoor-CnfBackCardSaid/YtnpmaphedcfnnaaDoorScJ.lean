/-
  The law CnfParses, walked.
-/
import Derived.Test.YtnpmaphedcfnnaaDoorS3F
import Derived.Test.YtnpmaphedcfnnaaDoorCnfR
import Derived.Test.YtnpmaphedcfnnaaDoorFrame
namespace Go.Proofs.YtnpmaphedcfnnaaDoor
open Go.ChangeShapes Go.WideShapes Go.ChangeAt Go.RowKit
set_option linter.unusedVariables false
theorem clausesF_ok {vars : Nat} {l : List UInt8} : ∀ {n k : Nat} {L L' : List (List Int)} {e : Nat}, clausesF vars l n k L = .ok (L', e) → (∀ c ∈ L, c.length ≤ l.length + 1 ∧ ∀ x ∈ c, x ≠ 0 ∧ x.natAbs ≤ vars) → L'.length = L.length + n ∧ ∀ c ∈ L', c.length ≤ l.length + 1 ∧ ∀ x ∈ c, x ≠ 0 ∧ x.natAbs ≤ vars
  | 0, k, L, L', e, h, hc => by
    unfold clausesF at h
    simp at h
    obtain ⟨rfl, -⟩ := h
    exact ⟨rfl, hc⟩
  | n + 1, k, L, L', e, h, hc => by
    rw [clausesF_step] at h
    cases hcl : clauseF vars l k with
    | error x => rw [hcl] at h; simp at h
    | ok q =>
      obtain ⟨c, e1⟩ := q
      have h1 := (clauseF_ok hcl).1
      have h2 := clauseG_len hcl
      rw [List.length_nil] at h2
      rw [hcl] at h
      obtain ⟨g1, g2⟩ := clausesF_ok h (fun c' hc' => by
        rw [List.mem_append, List.mem_singleton] at hc'
        rcases hc' with hc' | rfl
        · exact hc c' hc'
        · exact ⟨by omega, h1⟩)
      rw [List.length_append, List.length_singleton] at g1
      exact ⟨by omega, g2⟩
theorem clausesF_err {vars : Nat} {l : List UInt8} : ∀ {n k : Nat} {L : List (List Int)} {f p : Nat}, clausesF vars l n k L = .error (f, p) → 0 < f
  | 0, k, L, f, p, h => by simp [clausesF] at h
  | n + 1, k, L, f, p, h => by
    rw [clausesF_step] at h
    cases hcl : clauseF vars l k with
    | error x =>
      rw [hcl] at h
      simp at h
      subst h
      exact clauseG_err hcl
    | ok q => rw [hcl] at h; exact clausesF_err h
where
  clauseG_err {vars : Nat} {l : List UInt8} : ∀ {n k : Nat} {c : List Int} {f p : Nat}, clauseG vars l n k c = .error (f, p) → 0 < f
    | 0, k, c, f, p, h => by simp [clauseG] at h; omega
    | n + 1, k, c, f, p, h => by
      rw [clauseG_lit] at h
      cases hl : litF vars l k with
      | error x => rw [hl] at h; simp at h; subst h; exact (litF_err hl).1
      | ok q =>
        obtain ⟨v, e⟩ := q
        rw [hl] at h
        simp only at h
        split at h
        · cases hw : wantE [10] l e with
          | error x => rw [hw] at h; simp at h; subst h; exact wantE_err hw
          | ok m => rw [hw] at h; simp at h
        · cases hw : wantE [32] l e with
          | error x => rw [hw] at h; simp at h; subst h; exact wantE_err hw
          | ok m => rw [hw] at h; exact clauseG_err h
  wantE_err {t l : List UInt8} {k f p : Nat} (h : wantE t l k = .error (f, p)) : 0 < f := by
    unfold wantE at h
    cases hw : wantF t l k with
    | none => rw [hw] at h; simp at h
    | some x => rw [hw] at h; simp at h; subst h; exact (wantG_err hw).1
theorem wantE_pos {t l : List UInt8} {k f p : Nat} (h : wantE t l k = .error (f, p)) : 0 < f := clausesF_err.wantE_err h
theorem formF_err {l : List UInt8} {k f p : Nat} (h : formF l k = .error (f, p)) : 0 < f := by
  rw [formF_eq] at h
  cases hu : uptoF l k with
  | error x => rw [hu] at h; simp at h; subst h; exact (uptoF_err hu).1
  | ok q =>
    obtain ⟨vars, e1⟩ := q
    rw [hu] at h
    simp only at h
    cases hw : wantE [32] l e1 with
    | error x => rw [hw] at h; simp at h; subst h; exact wantE_pos hw
    | ok m1 =>
      rw [hw] at h
      simp only at h
      cases hu2 : uptoF l m1 with
      | error x => rw [hu2] at h; simp at h; subst h; exact (uptoF_err hu2).1
      | ok q2 =>
        obtain ⟨many, e2⟩ := q2
        rw [hu2] at h
        simp only at h
        cases hw2 : wantE [10] l e2 with
        | error x => rw [hw2] at h; simp at h; subst h; exact wantE_pos hw2
        | ok m2 =>
          rw [hw2] at h
          simp only at h
          cases hc : clausesF vars l many m2 [] with
          | error x => rw [hc] at h; simp at h; subst h; exact clausesF_err hc
          | ok q3 =>
            obtain ⟨L, e3⟩ := q3
            rw [hc] at h
            simp only at h
            split at h
            · simp at h; omega
            · simp at h
theorem formF_ok {l : List UInt8} {k vars : Nat} {L : List (List Int)} (h : formF l k = .ok (vars, L)) : vars ≤ 65536 ∧ L.length ≤ 65536 ∧ ∀ c ∈ L, c.length ≤ l.length + 1 ∧ ∀ x ∈ c, x ≠ 0 ∧ x.natAbs ≤ vars := by
  rw [formF_eq] at h
  cases hu : uptoF l k with
  | error x => rw [hu] at h; simp at h
  | ok q =>
    obtain ⟨vars', e1⟩ := q
    rw [hu] at h
    simp only at h
    cases hw : wantE [32] l e1 with
    | error x => rw [hw] at h; simp at h
    | ok m1 =>
      rw [hw] at h
      simp only at h
      cases hu2 : uptoF l m1 with
      | error x => rw [hu2] at h; simp at h
      | ok q2 =>
        obtain ⟨many, e2⟩ := q2
        rw [hu2] at h
        simp only at h
        cases hw2 : wantE [10] l e2 with
        | error x => rw [hw2] at h; simp at h
        | ok m2 =>
          rw [hw2] at h
          simp only at h
          cases hc : clausesF vars' l many m2 [] with
          | error x => rw [hc] at h; simp at h
          | ok q3 =>
            obtain ⟨L', e3⟩ := q3
            rw [hc] at h
            simp only at h
            split at h
            · simp at h
            · simp at h
              obtain ⟨rfl, rfl⟩ := h
              have := clausesF_ok hc (fun c hc => by simp at hc)
              have h1 := (uptoF_ok hu).1
              have h2 := (uptoF_ok hu2).1
              refine ⟨h1, ?_, this.2⟩
              rw [this.1]
              simp
              omega
theorem parseF_err {l : List UInt8} {f p : Nat} (h : parseF l = .error (f, p)) : 0 < f := by
  unfold parseF at h
  cases hw : wantF headB l 0 with
  | some x => rw [hw] at h; simp at h; omega
  | none => rw [hw] at h; exact formF_err h
theorem parseF_ok {l : List UInt8} {vars : Nat} {L : List (List Int)} (h : parseF l = .ok (vars, L)) : vars ≤ 65536 ∧ L.length ≤ 65536 ∧ ∀ c ∈ L, c.length ≤ l.length + 1 ∧ ∀ x ∈ c, x ≠ 0 ∧ x.natAbs ≤ vars := by
  unfold parseF at h
  cases hw : wantF headB l 0 with
  | some x => rw [hw] at h; simp at h
  | none => rw [hw] at h; exact formF_ok h
theorem getD_mem_len {L : List (List Int)} {n : Nat} (h : ∀ c ∈ L, c.length ≤ n) : ∀ j, j < L.length → (L.getD j []).length ≤ n := fun j hj => by
  rw [List.getD_eq_getElem?_getD, List.getElem?_eq_getElem hj]
  exact h _ (List.getElem_mem hj)
/-- Parse and its formula's calls, from any later world. -/
theorem all_Clauses2 {w0 : World} {B f : Nat} {sv : Int} {sl : List (List Int)} (h : FAt B w0 f sv sl) (h1 : sl.length ≤ 1000000) (h2 : ∀ j, j < sl.length → (sl.getD j []).length ≤ 1000000) : ∀ W, Below w0.heap.size w0 W → Calls Tryd.prog 20 #[.pointer (some ⟨f, 0, none⟩)] W fun e w' => ∃ u, e = .returned u ∧ IntsS w' u sl ∧ Below w0.heap.size w0 w' :=
  fun W hb => (Clauses_ (h.below hb) h1 h2).mono fun e w' ⟨u, g1, g2⟩ => ⟨u, g1, g2.intsS, hb.trans (g2.old.mono hb.size)⟩
set_option maxHeartbeats 4000000 in
set_option maxRecDepth 100000 in
theorem claw_parses {w : World} {v : Value} {l : List UInt8} (hT : Tab w) (hL : Laid w) (h : ByA w v l) : Calls Tryd.prog 6 #[v] w fun e w' => e = .returned (.bool true) ∧ Below w.heap.size w w' := by
  have HA := Lib.hid (alive_all (wr := w) hT)
  by_cases hlen : l.length ≤ 2000
  · have HP := Lib.hid (Parse_ hL h (by omega) _ rfl)
    have HB := Lib.hid h.1
    obtain ⟨a, cap, rfl, -, -⟩ := h.1.form
    have hn1 : ¬ (2000 : Int) < (l.length : Int) := by omega
    have HLEN := Lib.hid hlen
    cases hp : parseF l with
    | error x =>
      obtain ⟨f, p⟩ := x
      have hf := parseF_err hp
      have hfn : ((f : Int) != 0) = true := by rw [bne_iff_ne]; omega
      rw [hp] at HP
      have HPP := HP
      have HR : Hid (∀ W, Below w.heap.size w W → Calls Tryd.prog 28 #[.slice a l.length cap] W (RPost W (.error (f, p)))) := Lib.hid (fun W hb => hp ▸ r18_Parse (HB.out.below stays_by hb) (by have := HLEN.out; omega) _ rfl)
      generalize l.length = n at *
      clear HP hp hf h hL hT hlen
      go_enter Tryd.func6, Tryd.ntmps6
      go_wp2_with fail
      refine HPP.out.mono ?_
      rintro e w1 ⟨hb1, rfl⟩
      have HR1 := Lib.hid (HR.out _ hb1)
      have HB1 := Lib.hid hb1
      clear hb1
      go_wp2_with fail
      refine HR1.out.mono ?_
      rintro e w2 ⟨hb2, rfl⟩
      have HB2 := Lib.hid ((HB1.out.trans (hb2.mono HB1.out.size)).trans ((below_new1 w2 (.cells #[.int .i64 0, .slice none 0 0] 31)).mono (HB1.out.trans (hb2.mono HB1.out.size)).size))
      clear hb2
      go_wp2_with fail
      refine (HA.out _ HB2.out).mono ?_
      rintro e w3 ⟨rfl, hb3⟩
      have HB3 := Lib.hid hb3
      clear hb3
      go_wp2
      go_ret
      exact ⟨rfl, HB3.out⟩
    | ok q =>
      obtain ⟨vars, L⟩ := q
      have hok := parseF_ok hp
      rw [hp] at HP
      have HPP := HP
      have HR : Hid (∀ W, Below w.heap.size w W → Calls Tryd.prog 28 #[.slice a l.length cap] W (RPost W (.ok (vars, L)))) := Lib.hid (fun W hb => hp ▸ r18_Parse (HB.out.below stays_by hb) (by have := HLEN.out; omega) _ rfl)
      have hx1 : L.length ≤ 1000000 := by omega
      have hx2 : ∀ j, j < L.length → (L.getD j []).length ≤ 1000000 := fun j hj => by have := getD_mem_len (n := l.length + 1) (fun c hc => (hok.2.2 c hc).1) j hj; omega
      have HX2 := Lib.hid hx2
      have HX1 := Lib.hid hx1
      have HT := Lib.hid hT
      generalize l.length = n at *
      clear HP hp hok h hL hT hlen hx2 hx1
      go_enter Tryd.func6, Tryd.ntmps6
      go_wp2_with fail
      refine HPP.out.mono ?_
      rintro e w1 ⟨hb1, f, fp, B, rfl, hf1, hB1, hfp1⟩
      have HR1 := Lib.hid (HR.out _ hb1)
      have HB1 := Lib.hid hb1
      have HF1 := Lib.hid hf1.toF
      clear hb1 hf1 hB1 hfp1
      go_wp2_with fail
      refine HR1.out.mono ?_
      rintro e w2 ⟨hb2, u, rfl, hu2⟩
      obtain ⟨A, oc, rfl, -, -⟩ := hu2.form
      have hbA : Below w2.heap.size w2 (w2.alloc (.cells #[.int .i64 (vars : Int), .slice A L.length oc] 31)) := below_new1 _ _
      have hblk := Blk.new w2 31 #[.int .i64 (vars : Int), .slice A L.length oc]
      have hF0 := (HF1.out.below hb2).below hbA
      have hS0 := hu2.below hbA
      have hb0 : Below w.heap.size w (w2.alloc (.cells #[.int .i64 (vars : Int), .slice A L.length oc] 31)) := (HB1.out.trans (hb2.mono HB1.out.size)).trans (hbA.mono (HB1.out.trans (hb2.mono HB1.out.size)).size)
      clear hb2 hu2 hbA
      go_wp2_with fail
      generalize hW0 : w2.alloc (.cells #[.int .i64 (vars : Int), .slice A L.length oc] 31) = W0 at *
      clear hW0
      generalize w2.heap.size = g at *
      have c0 : W0.cell? ⟨g, 0, none⟩ = some (.int .i64 (vars : Int)) := hblk.cell 0
      have c1 : W0.cell? ⟨g, 1, none⟩ = some (.slice A L.length oc) := hblk.cell 1
      have hgl := hblk.lt
      have K0 : Hid (∀ W, Below W0.heap.size W0 W → W.cell? ⟨g, 0, none⟩ = some (.int .i64 (vars : Int))) := Lib.hid fun W hW => (hW.cell (p := ⟨g, 0, none⟩) hgl).trans c0
      have K1 : Hid (∀ W, Below W0.heap.size W0 W → W.cell? ⟨g, 1, none⟩ = some (.slice A L.length oc)) := Lib.hid fun W hW => (hW.cell (p := ⟨g, 1, none⟩) hgl).trans c1
      have A1 := Lib.hid (all_Vars hF0)
      have A3 := Lib.hid (all_Clauses2 hF0 HX1.out HX2.out)
      have A4 := Lib.hid (all_Lists hS0)
      have A9 := Lib.hid (alive_all (wr := W0) (HT.out.below hb0))
      have H0 := Lib.hid hb0
      generalize hm : L.length = m at *
      clear hm hblk hF0 hS0 hb0
      go_region_held3 (fun w' => w'.cell? ⟨g, 0, none⟩ = some (.int .i64 (vars : Int)) ∧ w'.cell? ⟨g, 1, none⟩ = some (.slice A m oc)) (go_keep) (first
        | (go_at_call 17; refine (A1.out _ (Below.refl _ _).drew).mono ?_; rintro e wa ⟨rfl, hq⟩; have Q1 := Lib.hid hq; have a0 := K0.out _ hq; have a1 := K1.out _ hq; clear hq)
        | (go_at_call 20; refine (A3.out _ Q1.out).mono ?_; rintro e wc ⟨uu, rfl, hu, hq⟩; have U3 := Lib.hid hu; have Q3 := Lib.hid hq; have d0 := K0.out _ hq; have d1 := K1.out _ hq; clear hq hu)
        | (go_at_call 19; refine (A4.out _ _ Q3.out U3.out).mono ?_; rintro e wd ⟨rfl, hq⟩; have Q4 := Lib.hid hq; have e0 := K0.out _ hq; have e1 := K1.out _ hq; clear hq)
        | (go_at_call 10; refine (A9.out _ Q4.out).mono ?_; rintro e wi ⟨rfl, hq⟩; have Q9 := Lib.hid hq; have l0 := K0.out _ hq; have l1 := K1.out _ hq; clear hq))
      go_wp2
      go_ret
      exact ⟨by simp, H0.out.trans (Q9.out.mono H0.out.size)⟩
  · obtain ⟨a, cap, rfl, -, -⟩ := h.1.form
    have hn1 : (2000 : Int) < (l.length : Int) := by omega
    generalize l.length = n at *
    clear h hL hT hlen
    go_enter Tryd.func6, Tryd.ntmps6
    go_wp2_with fail
    refine (HA.out _ (Below.refl _ _)).mono ?_
    rintro e w1 ⟨rfl, hb1⟩
    have HB1 := Lib.hid hb1
    clear hb1
    go_wp2
    go_ret
    exact ⟨rfl, HB1.out⟩
end Go.Proofs.YtnpmaphedcfnnaaDoor
/-
  What the parse laws' frame imports: an argument of bytes.
-/
namespace Go.Proofs.YtnpmaphedcfnnaaDoor
open Go.ChangeShapes Go.WideShapes Go.ChangeAt Go.RowKit
theorem wf_u8 {n : Int} (h : (Lit.int .u8 n).wf = true) : 0 ≤ n ∧ n < 256 := by
  have := bounds_u8 h
  exact ⟨this.1, by omega⟩
theorem bytes_of {W : World} {v : Value} (h : ∃ a cap, ∃ zs : List Int, v = .slice a zs.length cap ∧ (a = none → cap = 0) ∧ zs.length ≤ cap ∧ cap ≤ maxLen ∧ (∀ n ∈ zs, (Lit.int .u8 n).wf = true) ∧
      (zs = [] ∨ ∃ b off, a = some ⟨b, off, none⟩ ∧ ∀ j, j < zs.length → W.cell? ⟨b, off + j, none⟩ = some (.int .u8 (zs.getD j 0)))) : ∃ l, ByA W v l := by
  obtain ⟨a, cap, zs, rfl, h0, h1, h2, hw, hc⟩ := h
  have hlen : (zs.map fun n => UInt8.ofNat n.toNat).length = zs.length := List.length_map _
  refine ⟨zs.map fun n => UInt8.ofNat n.toNat, ⟨a, cap, by rw [hlen], by rw [hlen]; exact h1, h2, ?_⟩, fun n c e => ?_⟩
  · refine hc.elim (fun e => .inl (by rw [e]; rfl)) fun ⟨b, off, e, hj⟩ => .inr ⟨b, off, e, fun j hjl => ?_⟩
    rw [hlen] at hjl
    unfold ByR
    rw [Nat.mul_one, hj j hjl]
    have := wf_u8 (hw _ (List.getElem_mem hjl))
    simp only [List.getD, List.getElem?_map, List.getElem?_eq_getElem hjl, Option.map_some, Option.getD_some]
    congr 2
    rw [UInt8.toNat_ofNat']
    omega
  · injection e with e1 e2 e3
    rw [← e3]
    exact h0 e1
end Go.Proofs.YtnpmaphedcfnnaaDoor
