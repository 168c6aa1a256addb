/-
  The document's reader of a text: fail, want, num, upto.
-/
import Derived.Test.YtnpmaphedcfnnaaDoorS3A
namespace Go.Proofs.YtnpmaphedcfnnaaDoor
open Go.ChangeShapes Go.WideShapes Go.ChangeAt Go.RowKit
set_option linter.unusedVariables false
/-- The reader at block b, over the bytes' reader at a: where it stands, or what is wrong. -/
def RS (w : World) (a b : Nat) (l : List UInt8) : Except Wrong Nat → Prop
  | .ok m => R3At w a l m ∧ Blk w b 99 #[.pointer (some ⟨a, 0, none⟩), .int .i64 0, .int .i64 0] ∧ a < b
  | .error (f, p) => (∃ k, R3At w a l k) ∧ 0 < f ∧ Blk w b 99 #[.pointer (some ⟨a, 0, none⟩), .int .i64 (f : Int), .int .i64 (p : Int)] ∧ a < b
abbrev AB (a b : Nat) : Nat → Prop := fun i => i = a ∨ i = b
theorem RS.chg {w w' : World} {S : Nat → Prop} {a b : Nat} {l : List UInt8} {st : Except Wrong Nat} (h : RS w a b l st) (hc : Chg S w w') (hS : ∀ g, S g → b < g) : RS w' a b l st := by
  match st, h with
  | .ok m, ⟨h1, h2, h3⟩ => exact ⟨h1.chg hc (fun g hg => by have := hS g hg; omega), h2.chg hc (fun e => by have := hS b e; omega), h3⟩
  | .error (f, p), ⟨⟨k, h1⟩, h0, h2, h3⟩ => exact ⟨⟨k, h1.chg hc (fun g hg => by have := hS g hg; omega)⟩, h0, h2.chg hc (fun e => by have := hS b e; omega), h3⟩
theorem RS.below {w w' : World} {a b : Nat} {l : List UInt8} {st : Except Wrong Nat} (h : RS w a b l st) (hb : Below w.heap.size w w') : RS w' a b l st := h.chg (S := fun _ => False) (Chg.of_below hb) (fun _ h => h.elim)
/-- A step of the bytes' reader leaves the other block. -/
theorem RS.step {w w' : World} {a b : Nat} {l : List UInt8} {k m : Nat} (h : RS w a b l (.ok k)) (hc : Chg (fun i => i = a) w w') (hs : R3At w' a l m) : RS w' a b l (.ok m) :=
  ⟨hs, h.2.1.chg hc (fun e => by have := h.2.2; omega), h.2.2⟩
/-- What fail leaves. -/
def failed (f p : Nat) : Except Wrong Nat → Except Wrong Nat
  | .ok _ => .error (f, p)
  | .error x => .error x
theorem fail_ {w : World} {a b : Nat} {l : List UInt8} {st : Except Wrong Nat} (h : RS w a b l st) (f p : Nat) (hf : 0 < f) : Calls Tryd.prog 58 #[.pointer (some ⟨b, 0, none⟩), .int .i64 (f : Int), .int .i64 (p : Int)] w fun e w' => e = .returned (.tuple #[]) ∧ RS w' a b l (failed f p st) ∧ Chg (AB a b) w w' := by
  match st, h with
  | .ok m, h =>
    obtain ⟨h1, h2, h3⟩ := h
    have c1 : w.cell? ⟨b, 1, none⟩ = some (.int .i64 0) := h2.cell 1
    have f1 : w.frozen? ⟨b, 1, none⟩ = false := h2.frozen 1
    have hB1 := h2.set_ 1 (.int .i64 (f : Int))
    have f2 : (w.setCell ⟨b, 1, none⟩ (.int .i64 (f : Int))).frozen? ⟨b, 2, none⟩ = false := hB1.frozen 2
    have c2 : (w.setCell ⟨b, 1, none⟩ (.int .i64 (f : Int))).cell? ⟨b, 2, none⟩ = some (.int .i64 0) := hB1.cell 2
    have hB2 := hB1.set_ 2 (.int .i64 (p : Int))
    have hcg : Chg (AB a b) w ((w.setCell ⟨b, 1, none⟩ (.int .i64 (f : Int))).setCell ⟨b, 2, none⟩ (.int .i64 (p : Int))) := ((Chg.refl (AB a b) w).setCell (p := ⟨b, 1, none⟩) (.inl (.inr rfl)) _).setCell (p := ⟨b, 2, none⟩) (.inl (.inr rfl)) _
    have hcb : Chg (fun i => i = b) w ((w.setCell ⟨b, 1, none⟩ (.int .i64 (f : Int))).setCell ⟨b, 2, none⟩ (.int .i64 (p : Int))) := ((Chg.refl (fun i => i = b) w).setCell (p := ⟨b, 1, none⟩) (.inl rfl) _).setCell (p := ⟨b, 2, none⟩) (.inl rfl) _
    have H1 := Lib.hid (h1.chg hcb (fun g hg => by omega))
    have H2 := Lib.hid hB2
    have HC := Lib.hid hcg
    have hsz : b < w.heap.size := h2.lt
    clear h1 h2 hB1 hB2 hcg hcb
    go_enter Tryd.func58, Tryd.ntmps58
    go_wp2
    go_returns
    exact ⟨rfl, ⟨⟨m, H1.out⟩, hf, H2.out, h3⟩, HC.out⟩
  | .error (f0, p0), h =>
    have HH := Lib.hid h
    obtain ⟨-, h1, h2, h3⟩ := h
    have c1 : w.cell? ⟨b, 1, none⟩ = some (.int .i64 (f0 : Int)) := h2.cell 1
    have hfb : ((f0 : Int) == 0) = false := by rw [beq_eq_false_iff_ne]; omega
    clear h1 h2
    go_enter Tryd.func58, Tryd.ntmps58
    go_wp2
    go_returns
    exact ⟨rfl, HH.out, Chg.refl _ _⟩
theorem RS.cellsB {w : World} {a b : Nat} {l : List UInt8} {k : Nat} (h : RS w a b l (.ok k)) : w.cell? ⟨b, 0, none⟩ = some (.pointer (some ⟨a, 0, none⟩)) ∧ w.cell? ⟨b, 1, none⟩ = some (.int .i64 0) := ⟨h.2.1.cell 0, h.2.1.cell 1⟩
theorem RS.cellsE {w : World} {a b : Nat} {l : List UInt8} {f p : Nat} (h : RS w a b l (.error (f, p))) : w.cell? ⟨b, 0, none⟩ = some (.pointer (some ⟨a, 0, none⟩)) ∧ w.cell? ⟨b, 1, none⟩ = some (.int .i64 (f : Int)) ∧ w.cell? ⟨b, 2, none⟩ = some (.int .i64 (p : Int)) ∧ ((f : Int) == 0) = false ∧ ((f : Int) != 0) = true := by
  have h0 := h.2.1
  refine ⟨h.2.2.1.cell 0, h.2.2.1.cell 1, h.2.2.1.cell 2, ?_, ?_⟩
  · rw [beq_eq_false_iff_ne]; omega
  · rw [bne_iff_ne]; omega
def StP (w : World) (a b : Nat) (l : List UInt8) (st : Except Wrong Nat) (e : Ending) (w' : World) : Prop := e = .returned (.tuple #[]) ∧ RS w' a b l st ∧ Chg (AB a b) w w'
def wantS (t l : List UInt8) (st : Except Wrong Nat) : Except Wrong Nat := match st with
  | .ok k => wantE t l k
  | .error x => .error x
theorem ab_of {a b : Nat} {w w' : World} (h : Chg (fun i => i = a) w w') : Chg (AB a b) w w' := h.mono (fun i hi => .inl hi)
theorem ab_trans {a b : Nat} {w1 w2 w3 : World} (h : Chg (AB a b) w1 w2) (g : Chg (AB a b) w2 w3) : Chg (AB a b) w1 w3 := h.trans g (fun i hi => .inl hi)
set_option maxHeartbeats 1000000 in
theorem want3_ {w : World} {a b : Nat} {l : List UInt8} {st : Except Wrong Nat} (h : RS w a b l st) (s : ByteArray) (hs : s.size ≤ 1000) : Calls Tryd.prog 56 #[.pointer (some ⟨b, 0, none⟩), .string s] w (StP w a b l (wantS s.data.toList l st)) := by
  match st, h with
  | .error (f0, p0), h =>
    have HH := Lib.hid h
    obtain ⟨c0, c1, -, hfb, -⟩ := h.cellsE
    clear h
    go_enter Tryd.func56, Tryd.ntmps56
    go_wp2
    go_returns
    exact ⟨rfl, HH.out, Chg.refl _ _⟩
  | .ok k, h =>
    have HH := Lib.hid h
    have hsl : s.data.toList.length = s.size := by rw [Array.length_toList]; rfl
    have HSL := Lib.hid hsl
    obtain ⟨c0, c1⟩ := h.cellsB
    have HW := Lib.hid (r3_Want h.1 s hs _ rfl)
    show Calls Tryd.prog 56 #[.pointer (some ⟨b, 0, none⟩), .string s] w (StP w a b l (wantE s.data.toList l k))
    unfold wantE
    cases ho : wantF s.data.toList l k with
    | none =>
      rw [ho] at HW
      have HWW := HW
      clear HW ho h hsl
      go_enter Tryd.func56, Tryd.ntmps56
      go_wp2_with fail
      refine HWW.out.mono ?_
      rintro e w1 ⟨rfl, h1, h2⟩
      have H1 := Lib.hid (HH.out.step h2 h1)
      have H2 := Lib.hid (ab_of (b := b) h2)
      clear h1 h2
      go_wp2
      go_returns
      exact ⟨rfl, by rw [HSL.out]; exact H1.out, H2.out⟩
    | some x =>
      obtain ⟨f, p⟩ := x
      have hf := wantG_err ho
      rw [ho] at HW
      have HWW := HW
      have hfb : ((f : Int) != 0) = true := by rw [bne_iff_ne]; omega
      clear HW ho h hsl
      go_enter Tryd.func56, Tryd.ntmps56
      go_wp2_with fail
      refine HWW.out.mono ?_
      rintro e w1 ⟨rfl, h1, h2⟩
      have HF := Lib.hid (fail_ (HH.out.step h2 h1) f p hf.1)
      have H2 := Lib.hid (ab_of (b := b) h2)
      clear h1 h2 hf
      go_wp2_with fail
      refine HF.out.mono ?_
      rintro e w2 ⟨rfl, h1, h2⟩
      have H3 := Lib.hid h1
      have H4 := Lib.hid (ab_trans H2.out h2)
      clear h1 h2
      go_wp2
      go_returns
      exact ⟨rfl, H3.out, H4.out⟩
theorem num_was {w : World} {a b : Nat} {l : List UInt8} {x : Wrong} (h : RS w a b l (.error x)) : Calls Tryd.prog 76 #[.pointer (some ⟨b, 0, none⟩)] w fun e w' => ∃ k : Nat, e = .returned (.tuple #[.int .i64 0, .int .i64 (k : Int)]) ∧ w = w' := by
  obtain ⟨f, p⟩ := x
  obtain ⟨c0, c1, -, -, hfb⟩ := h.cellsE
  obtain ⟨k, hk⟩ := h.1
  obtain ⟨A, cap, -, d1, -⟩ := hk.cells
  clear h hk
  go_enter Tryd.func76, Tryd.ntmps76
  go_wp2
  go_ret2
  exact ⟨k, rfl, rfl⟩
def NumR (w : World) (a b : Nat) (l : List UInt8) (k : Nat) (o : Except Nat (Nat × Nat)) (e : Ending) (w' : World) : Prop :=
  Chg (AB a b) w w' ∧ match o with
  | .ok (n, m) => e = .returned (.tuple #[.int .i64 (n : Int), .int .i64 (k : Int)]) ∧ RS w' a b l (.ok m)
  | .error f => e = .returned (.tuple #[.int .i64 0, .int .i64 (k : Int)]) ∧ RS w' a b l (.error (f, k))
set_option maxHeartbeats 1000000 in
theorem num_at {w : World} {a b : Nat} {l : List UInt8} {k : Nat} (h : RS w a b l (.ok k)) : Calls Tryd.prog 76 #[.pointer (some ⟨b, 0, none⟩)] w (NumR w a b l k (numF 1099511627776 l k)) := by
  have HH := Lib.hid h
  obtain ⟨c0, c1⟩ := h.cellsB
  obtain ⟨A, cap, -, d1, -⟩ := h.1.cells
  have HW := Lib.hid (r3_Number h.1 1099511627776 (by decide) _ rfl)
  cases ho : numF 1099511627776 l k with
  | ok q =>
    obtain ⟨n, m⟩ := q
    rw [ho] at HW
    have HWW := HW
    clear HW ho h
    go_enter Tryd.func76, Tryd.ntmps76
    go_wp2_with fail
    refine HWW.out.mono ?_
    rintro e w1 ⟨rfl, h1, h2⟩
    have H1 := Lib.hid (HH.out.step h2 h1)
    have H2 := Lib.hid (ab_of (b := b) h2)
    clear h1 h2
    go_wp2
    go_ret2
    exact ⟨H2.out, rfl, H1.out⟩
  | error f =>
    have hf := numF_err ho
    rw [ho] at HW
    have HWW := HW
    have hfb : ((f : Int) != 0) = true := by rw [bne_iff_ne]; omega
    clear HW ho h
    go_enter Tryd.func76, Tryd.ntmps76
    go_wp2_with fail
    refine HWW.out.mono ?_
    rintro e w1 ⟨rfl, h1, h2⟩
    have HF := Lib.hid (fail_ (HH.out.step h2 h1) f k hf.1)
    have H2 := Lib.hid (ab_of (b := b) h2)
    clear h1 h2 hf
    go_wp2_with fail
    refine HF.out.mono ?_
    rintro e w2 ⟨rfl, h1, h2⟩
    have H3 := Lib.hid h1
    have H4 := Lib.hid (ab_trans H2.out h2)
    clear h1 h2
    go_wp2
    go_ret2
    exact ⟨H4.out, rfl, H3.out⟩
def UpR (w : World) (a b : Nat) (l : List UInt8) (o : Except Wrong (Nat × Nat)) (e : Ending) (w' : World) : Prop :=
  Chg (AB a b) w w' ∧ match o with
  | .ok (n, m) => e = .returned (.int .i64 (n : Int)) ∧ RS w' a b l (.ok m)
  | .error x => e = .returned (.int .i64 0) ∧ RS w' a b l (.error x)
def uptoS (l : List UInt8) (st : Except Wrong Nat) : Except Wrong (Nat × Nat) := match st with
  | .ok k => uptoF l k
  | .error x => .error x
set_option maxHeartbeats 1000000 in
theorem upto3_ {w : World} {a b : Nat} {l : List UInt8} {st : Except Wrong Nat} (h : RS w a b l st) : Calls Tryd.prog 55 #[.pointer (some ⟨b, 0, none⟩)] w (UpR w a b l (uptoS l st)) := by
  match st, h with
  | .error x, h =>
    have HH := Lib.hid h
    have HN := Lib.hid (num_was h)
    clear h
    go_enter Tryd.func55, Tryd.ntmps55
    go_wp2_with fail
    refine HN.out.mono ?_
    rintro e w1 ⟨k, rfl, rfl⟩
    go_wp2
    go_ret
    exact ⟨Chg.refl _ _, rfl, HH.out⟩
  | .ok k, h =>
    have HN := Lib.hid (num_at h)
    show Calls Tryd.prog 55 #[.pointer (some ⟨b, 0, none⟩)] w (UpR w a b l (uptoF l k))
    unfold uptoF
    cases ho : numF 1099511627776 l k with
    | error f =>
      rw [ho] at HN
      have HWW := HN
      clear HN ho h
      go_enter Tryd.func55, Tryd.ntmps55
      go_wp2_with fail
      refine HWW.out.mono ?_
      rintro e w1 ⟨hc, rfl, h1⟩
      have H1 := Lib.hid h1
      have HC := Lib.hid hc
      clear hc h1
      go_wp2
      go_ret
      exact ⟨HC.out, rfl, H1.out⟩
    | ok q =>
      obtain ⟨n, m⟩ := q
      rw [ho] at HN
      have HWW := HN
      clear HN ho h
      by_cases hn : 65536 < n
      · simp only [if_pos hn]
        have hni : (65536 : Int) < (n : Int) := by omega
        go_enter Tryd.func55, Tryd.ntmps55
        go_wp2_with fail
        refine HWW.out.mono ?_
        rintro e w1 ⟨hc, rfl, h1⟩
        have HF := Lib.hid (fail_ h1 10 k (by decide))
        have HC := Lib.hid hc
        clear hc h1
        go_wp2_with fail
        refine HF.out.mono ?_
        rintro e w2 ⟨rfl, h1, h2⟩
        have H3 := Lib.hid h1
        have H4 := Lib.hid (ab_trans HC.out h2)
        clear h1 h2
        go_wp2
        go_ret
        exact ⟨H4.out, rfl, H3.out⟩
      · simp only [if_neg hn]
        have hni : ¬ (65536 : Int) < (n : Int) := by omega
        go_enter Tryd.func55, Tryd.ntmps55
        go_wp2_with fail
        refine HWW.out.mono ?_
        rintro e w1 ⟨hc, rfl, h1⟩
        have H1 := Lib.hid h1
        have HC := Lib.hid hc
        clear hc h1
        go_wp2
        go_ret
        exact ⟨HC.out, rfl, H1.out⟩
end Go.Proofs.YtnpmaphedcfnnaaDoor
/-
  The document's reader of a text: lit.
-/
namespace Go.Proofs.YtnpmaphedcfnnaaDoor
open Go.ChangeShapes Go.WideShapes Go.ChangeAt Go.RowKit
set_option linter.unusedVariables false
def LitR (w : World) (a b : Nat) (l : List UInt8) (o : Except Wrong (Int × Nat)) (e : Ending) (w' : World) : Prop :=
  Chg (AB a b) w w' ∧ match o with
  | .ok (n, m) => e = .returned (.int .i64 n) ∧ RS w' a b l (.ok m)
  | .error x => (∃ n, e = .returned (.int .i64 n)) ∧ RS w' a b l (.error x)
theorem litR_ok {w w' : World} {a b : Nat} {l : List UInt8} {o : Except Wrong (Int × Nat)} {n : Int} {m : Nat} {v : Value} (ho : o = .ok (n, m)) (hv : v = .int .i64 n) (hc : Chg (AB a b) w w') (hs : RS w' a b l (.ok m)) : LitR w a b l o (.returned v) w' := by
  subst ho hv
  exact ⟨hc, rfl, hs⟩
theorem litR_err {w w' : World} {a b : Nat} {l : List UInt8} {o : Except Wrong (Int × Nat)} {n : Int} {x : Wrong} {v : Value} (ho : o = .error x) (hv : v = .int .i64 n) (hc : Chg (AB a b) w w') (hs : RS w' a b l (.error x)) : LitR w a b l o (.returned v) w' := by
  subst ho hv
  exact ⟨hc, ⟨n, rfl⟩, hs⟩
def litS (vars : Nat) (l : List UInt8) (st : Except Wrong Nat) : Except Wrong (Int × Nat) := match st with
  | .ok k => litF vars l k
  | .error x => .error x
set_option maxHeartbeats 1000000 in
theorem lit3_was {w : World} {a b : Nat} {l : List UInt8} {x : Wrong} (h : RS w a b l (.error x)) (vars : Nat) : Calls Tryd.prog 57 #[.pointer (some ⟨b, 0, none⟩), .int .i64 (vars : Int)] w (LitR w a b l (.error x)) := by
  obtain ⟨f, p⟩ := x
  obtain ⟨c0, c1, -, hfb, -⟩ := h.cellsE
  have HS := Lib.hid h
  clear h
  go_enter Tryd.func57, Tryd.ntmps57
  go_wp2
  go_quiet (fail)
  have HN := Lib.hid (num_was (HS.out.below (below_drewN (Below.refl _ _) nq)))
  have HQ := Lib.hid (Chg.of_below (S := AB a b) (below_drewN (Below.refl _ w) nq))
  have c1q : (w.drewN nq).cell? ⟨b, 1, none⟩ = some (.int .i64 (f : Int)) := c1
  have HSQ := Lib.hid (HS.out.below (below_drewN (Below.refl _ _) nq))
  generalize w.drewN nq = wq at *
  go_wp2_with fail
  refine HN.out.mono ?_
  rintro e w1 ⟨k, rfl, rfl⟩
  go_wp2
  go_ret
  exact litR_err rfl (by go_num) HQ.out HSQ.out
set_option maxHeartbeats 2000000 in
theorem lit3_ {w : World} {a b : Nat} {l : List UInt8} {k : Nat} (h : RS w a b l (.ok k)) (vars : Nat) (hv : vars ≤ 65536) (o : Except Wrong (Int × Nat)) (ho : litF vars l k = o) : Calls Tryd.prog 57 #[.pointer (some ⟨b, 0, none⟩), .int .i64 (vars : Int)] w (LitR w a b l o) := by
  have HS := Lib.hid h
  obtain ⟨c0, c1⟩ := h.cellsB
  obtain ⟨A, cap, d0, d1, f1⟩ := h.1.cells
  have hk0 := h.1.len
  have h255 : (l.getD k 0).toNat < 256 := (l.getD k 0).toNat_lt
  have h45 : (l.getD k 0).toNat = 45 ↔ l.getD k 0 = 45 := ⟨fun h => UInt8.toNat.inj h, fun h => by rw [h]; rfl⟩
  unfold litF at ho
  by_cases hm : k < l.length ∧ l.getD k 0 = 45
  · rw [if_pos hm] at ho
    obtain ⟨bb, off, cap', e0, -, -, hc⟩ := h.1.byte hm.1
    rw [d0] at e0
    injection e0 with e0
    injection e0 with e1 e2 e3
    subst e1
    rw [h45.2 hm.2] at hc
    have hki : (k : Int) < (l.length : Int) := by omega
    have HO := Lib.hid ho
    have hmv := h.1.move (m := k + 1) (by omega)
    have hcg : Chg (fun i => i = a) w (w.setCell ⟨a, 1, none⟩ (.int .i64 ((k + 1 : Nat) : Int))) := (Chg.refl (fun i => i = a) w).setCell (p := ⟨a, 1, none⟩) (.inl rfl) _
    have HK := Lib.hid (h.1.len)
    have HKL := Lib.hid hm.1
    clear ho h255 h45 hm h e2 e3 hmv hcg
    go_enter Tryd.func57, Tryd.ntmps57
    go_wp2
    go_quiet (fail)
    have hsq := HS.out.below (below_drewN (Below.refl _ _) nq)
    have hmv := hsq.1.move (m := k + 1) (by have := HKL.out; omega)
    have hcg : Chg (fun i => i = a) (w.drewN nq) ((w.drewN nq).setCell ⟨a, 1, none⟩ (.int .i64 ((k + 1 : Nat) : Int))) := (Chg.refl (fun i => i = a) _).setCell (p := ⟨a, 1, none⟩) (.inl rfl) _
    rw [show ((k + 1 : Nat) : Int) = (k : Int) + 1 by omega] at hmv hcg
    have HS2 := Lib.hid (hsq.step hcg hmv)
    have HQ := Lib.hid ((Chg.of_below (S := AB a b) (below_drewN (Below.refl _ w) nq)).trans (ab_of (b := b) hcg) (fun i hi => .inl hi))
    have g0 : (w.drewN nq).cell? ⟨b, 0, none⟩ = some (.pointer (some ⟨a, 0, none⟩)) := c0
    have g1 : (w.drewN nq).cell? ⟨a, 1, none⟩ = some (.int .i64 (k : Int)) := d1
    have g2 : (w.drewN nq).frozen? ⟨a, 1, none⟩ = false := f1
    clear hsq hmv hcg
    generalize w.drewN nq = wq at *
    have HN := Lib.hid (num_at HS2.out)
    have ho := HO.out
    generalize hw2 : wq.setCell ⟨a, 1, none⟩ (.int .i64 ((k : Int) + 1)) = w2 at *
    have HW2 := Lib.hid hw2
    cases hn : numF 1099511627776 l (k + 1) with
    | error f =>
      have hf := numF_err hn
      rw [hn] at HN ho
      have HOO := Lib.hid ho.symm
      have HNN := HN
      clear HN ho hn hw2
      go_wp2_with fail
      rw [HW2.out]
      refine HNN.out.mono ?_
      rintro e w3 ⟨hc3, rfl, hs3⟩
      have HC3 := Lib.hid (ab_trans HQ.out hc3)
      have HS3 := Lib.hid hs3
      obtain ⟨x0, x1, -, hfb, -⟩ := hs3.cellsE
      clear hs3 hc3
      go_wp2
      go_ret
      exact litR_err HOO.out (by go_num) HC3.out HS3.out
    | ok q =>
      obtain ⟨n, m⟩ := q
      have hnm := numF_ok hn
      have hn1 : (n : Int) ≤ 1099511627776 := by omega
      rw [hn] at HN ho
      simp only at ho
      have HNN := HN
      clear HN hn hnm hw2
      by_cases hn0 : n = 0
      · subst hn0
        rw [if_pos rfl] at ho
        have HOO := Lib.hid ho.symm
        clear ho
        go_wp2_with fail
        rw [HW2.out]
        refine HNN.out.mono ?_
        rintro e w3 ⟨hc3, rfl, hs3⟩
        have HC3 := Lib.hid (ab_trans HQ.out hc3)
        have HF := Lib.hid (fail_ hs3 2 (k + 1) (by decide))
        obtain ⟨x0, x1⟩ := hs3.cellsB
        clear hs3 hc3
        go_wp2_with fail
        refine HF.out.mono ?_
        rintro e w4 ⟨rfl, h1, h2⟩
        have H3 := Lib.hid h1
        have H4 := Lib.hid (ab_trans HC3.out h2)
        clear h1 h2
        go_wp2
        go_ret
        exact litR_err HOO.out (by go_num) H4.out H3.out
      · rw [if_neg hn0] at ho
        have hnb : ((n : Int) == 0) = false := by rw [beq_eq_false_iff_ne]; omega
        by_cases hnv : vars < n
        · rw [if_pos hnv] at ho
          have hvi : (vars : Int) < (n : Int) := by omega
          have HOO := Lib.hid ho.symm
          clear ho hn0
          go_wp2_with fail
          rw [HW2.out]
          refine HNN.out.mono ?_
          rintro e w3 ⟨hc3, rfl, hs3⟩
          have HC3 := Lib.hid (ab_trans HQ.out hc3)
          have HF := Lib.hid (fail_ hs3 5 (k + 1) (by decide))
          obtain ⟨x0, x1⟩ := hs3.cellsB
          clear hs3 hc3
          go_wp2_with fail
          refine HF.out.mono ?_
          rintro e w4 ⟨rfl, h1, h2⟩
          have H3 := Lib.hid h1
          have H4 := Lib.hid (ab_trans HC3.out h2)
          clear h1 h2
          go_wp2
          go_ret
          exact litR_err HOO.out rfl H4.out H3.out
        · rw [if_neg hnv] at ho
          have hvi : ¬ (vars : Int) < (n : Int) := by omega
          have HOO := Lib.hid ho.symm
          clear ho hn0
          go_wp2_with fail
          rw [HW2.out]
          refine HNN.out.mono ?_
          rintro e w3 ⟨hc3, rfl, hs3⟩
          have HC3 := Lib.hid (ab_trans HQ.out hc3)
          have HS3 := Lib.hid hs3
          obtain ⟨x0, x1⟩ := hs3.cellsB
          clear hs3 hc3
          go_wp2
          go_ret
          exact litR_ok HOO.out (by go_num) HC3.out HS3.out
  · rw [if_neg hm] at ho
    have HO := Lib.hid ho
    by_cases hk : k < l.length
    · obtain ⟨bb, off, cap', e0, -, -, hc⟩ := h.1.byte hk
      rw [d0] at e0
      injection e0 with e0
      injection e0 with e1 e2 e3
      subst e1
      have hki : (k : Int) < (l.length : Int) := by omega
      have hcb : (((l.getD k 0).toNat : Int) == 45) = false := by
        rw [beq_eq_false_iff_ne]
        intro e
        exact hm ⟨hk, h45.1 (by omega)⟩
      generalize (l.getD k 0).toNat = c at *
      clear ho h45 hm h e2 e3
      go_enter Tryd.func57, Tryd.ntmps57
      go_wp2
      go_quiet (fail)
      have HS2 := Lib.hid (HS.out.below (below_drewN (Below.refl _ _) nq))
      have HQ := Lib.hid (Chg.of_below (S := AB a b) (below_drewN (Below.refl _ w) nq))
      have g0 : (w.drewN nq).cell? ⟨b, 0, none⟩ = some (.pointer (some ⟨a, 0, none⟩)) := c0
      generalize w.drewN nq = wq at *
      have HN := Lib.hid (num_at HS2.out)
      have ho := HO.out
      cases hn : numF 1099511627776 l k with
      | error f =>
        have hf := numF_err hn
        rw [hn] at HN ho
        have HOO := Lib.hid ho.symm
        have HNN := HN
        clear HN ho hn
        go_wp2_with fail
        refine HNN.out.mono ?_
        rintro e w3 ⟨hc3, rfl, hs3⟩
        have HC3 := Lib.hid (ab_trans HQ.out hc3)
        have HS3 := Lib.hid hs3
        obtain ⟨x0, x1, -, hfb, -⟩ := hs3.cellsE
        clear hs3 hc3
        go_wp2
        go_ret
        exact litR_err HOO.out (by go_num) HC3.out HS3.out
      | ok q =>
        obtain ⟨n, m⟩ := q
        have hnm := numF_ok hn
        have hn1 : (n : Int) ≤ 1099511627776 := by omega
        rw [hn] at HN ho
        simp only at ho
        have HNN := HN
        clear HN hn hnm
        by_cases hnv : vars < n
        · rw [if_pos hnv] at ho
          have hvi : (vars : Int) < (n : Int) := by omega
          have hnb : ((n : Int) == 0) = false := by rw [beq_eq_false_iff_ne]; omega
          have HOO := Lib.hid ho.symm
          clear ho
          go_wp2_with fail
          refine HNN.out.mono ?_
          rintro e w3 ⟨hc3, rfl, hs3⟩
          have HC3 := Lib.hid (ab_trans HQ.out hc3)
          have HF := Lib.hid (fail_ hs3 5 k (by decide))
          obtain ⟨x0, x1⟩ := hs3.cellsB
          clear hs3 hc3
          go_wp2_with fail
          refine HF.out.mono ?_
          rintro e w4 ⟨rfl, h1, h2⟩
          have H3 := Lib.hid h1
          have H4 := Lib.hid (ab_trans HC3.out h2)
          clear h1 h2
          go_wp2
          go_ret
          exact litR_err HOO.out rfl H4.out H3.out
        · rw [if_neg hnv] at ho
          have hvi : ¬ (vars : Int) < (n : Int) := by omega
          have HOO := Lib.hid ho.symm
          clear ho
          by_cases hn0 : n = 0
          · subst hn0
            go_wp2_with fail
            refine HNN.out.mono ?_
            rintro e w3 ⟨hc3, rfl, hs3⟩
            have HC3 := Lib.hid (ab_trans HQ.out hc3)
            have HS3 := Lib.hid hs3
            obtain ⟨x0, x1⟩ := hs3.cellsB
            clear hs3 hc3
            go_wp2
            go_ret
            exact litR_ok HOO.out (by go_num) HC3.out HS3.out
          · have hnb : ((n : Int) == 0) = false := by rw [beq_eq_false_iff_ne]; omega
            clear hn0
            go_wp2_with fail
            refine HNN.out.mono ?_
            rintro e w3 ⟨hc3, rfl, hs3⟩
            have HC3 := Lib.hid (ab_trans HQ.out hc3)
            have HS3 := Lib.hid hs3
            obtain ⟨x0, x1⟩ := hs3.cellsB
            clear hs3 hc3
            go_wp2
            go_ret
            exact litR_ok HOO.out (by go_num) HC3.out HS3.out
    · have hki : ¬ (k : Int) < (l.length : Int) := by omega
      clear ho h45 hm h h255
      go_enter Tryd.func57, Tryd.ntmps57
      go_wp2
      go_quiet (fail)
      have HS2 := Lib.hid (HS.out.below (below_drewN (Below.refl _ _) nq))
      have HQ := Lib.hid (Chg.of_below (S := AB a b) (below_drewN (Below.refl _ w) nq))
      have g0 : (w.drewN nq).cell? ⟨b, 0, none⟩ = some (.pointer (some ⟨a, 0, none⟩)) := c0
      generalize w.drewN nq = wq at *
      have HN := Lib.hid (num_at HS2.out)
      have ho := HO.out
      cases hn : numF 1099511627776 l k with
      | error f =>
        have hf := numF_err hn
        rw [hn] at HN ho
        have HOO := Lib.hid ho.symm
        have HNN := HN
        clear HN ho hn
        go_wp2_with fail
        refine HNN.out.mono ?_
        rintro e w3 ⟨hc3, rfl, hs3⟩
        have HC3 := Lib.hid (ab_trans HQ.out hc3)
        have HS3 := Lib.hid hs3
        obtain ⟨x0, x1, -, hfb, -⟩ := hs3.cellsE
        clear hs3 hc3
        go_wp2
        go_ret
        exact litR_err HOO.out (by go_num) HC3.out HS3.out
      | ok q =>
        obtain ⟨n, m⟩ := q
        have hnm := numF_ok hn
        have hn1 : (n : Int) ≤ 1099511627776 := by omega
        rw [hn] at HN ho
        simp only at ho
        have HNN := HN
        clear HN hn hnm
        by_cases hnv : vars < n
        · rw [if_pos hnv] at ho
          have hvi : (vars : Int) < (n : Int) := by omega
          have hnb : ((n : Int) == 0) = false := by rw [beq_eq_false_iff_ne]; omega
          have HOO := Lib.hid ho.symm
          clear ho
          go_wp2_with fail
          refine HNN.out.mono ?_
          rintro e w3 ⟨hc3, rfl, hs3⟩
          have HC3 := Lib.hid (ab_trans HQ.out hc3)
          have HF := Lib.hid (fail_ hs3 5 k (by decide))
          obtain ⟨x0, x1⟩ := hs3.cellsB
          clear hs3 hc3
          go_wp2_with fail
          refine HF.out.mono ?_
          rintro e w4 ⟨rfl, h1, h2⟩
          have H3 := Lib.hid h1
          have H4 := Lib.hid (ab_trans HC3.out h2)
          clear h1 h2
          go_wp2
          go_ret
          exact litR_err HOO.out rfl H4.out H3.out
        · rw [if_neg hnv] at ho
          have hvi : ¬ (vars : Int) < (n : Int) := by omega
          have HOO := Lib.hid ho.symm
          clear ho
          by_cases hn0 : n = 0
          · subst hn0
            go_wp2_with fail
            refine HNN.out.mono ?_
            rintro e w3 ⟨hc3, rfl, hs3⟩
            have HC3 := Lib.hid (ab_trans HQ.out hc3)
            have HS3 := Lib.hid hs3
            obtain ⟨x0, x1⟩ := hs3.cellsB
            clear hs3 hc3
            go_wp2
            go_ret
            exact litR_ok HOO.out (by go_num) HC3.out HS3.out
          · have hnb : ((n : Int) == 0) = false := by rw [beq_eq_false_iff_ne]; omega
            clear hn0
            go_wp2_with fail
            refine HNN.out.mono ?_
            rintro e w3 ⟨hc3, rfl, hs3⟩
            have HC3 := Lib.hid (ab_trans HQ.out hc3)
            have HS3 := Lib.hid hs3
            obtain ⟨x0, x1⟩ := hs3.cellsB
            clear hs3 hc3
            go_wp2
            go_ret
            exact litR_ok HOO.out (by go_num) HC3.out HS3.out
end Go.Proofs.YtnpmaphedcfnnaaDoor
/-
  The document's parser: its relations, plain, and its formula in memory.
-/
namespace Go.Proofs.YtnpmaphedcfnnaaDoor
open Go.ChangeShapes Go.WideShapes Go.ChangeAt Go.RowKit
set_option linter.unusedVariables false
abbrev ResF := Except Wrong (Nat × List (List Int))
def finF (vars : Nat) (l : List UInt8) (x : Except Wrong (List (List Int) × Nat)) : ResF := match x with
  | .error x => .error x
  | .ok (L, e3) => if e3 < l.length then .error (13, e3) else .ok (vars, L)
/-- Between two clauses. -/
def RelO (vars many : Nat) (l : List UInt8) (O : ResF) (st : Except Wrong Nat) (j : Nat) (L : List (List Int)) : Prop := match st with
  | .error x => O = .error x
  | .ok k => finF vars l (clausesF vars l (many - j) k L) = O
def litThen (vars : Nat) (l : List UInt8) (f : Nat) (v : Int) (e : Nat) (cs : List Int) : Except Wrong (List Int × Nat) :=
  if v = 0 then (match wantE [10] l e with | .error x => .error x | .ok m => .ok (cs, m)) else (match wantE [32] l e with | .error x => .error x | .ok m => clauseG vars l f m (cs ++ [v]))
/-- Between two literals. -/
def RelI (vars : Nat) (l : List UInt8) (R : Except Wrong (List Int × Nat)) (st : Except Wrong Nat) (v : Int) (cs : List Int) : Prop := match st with
  | .error x => R = .error x
  | .ok e => ∃ f, l.length ≤ f + e ∧ cs.length ≤ e ∧ litThen vars l f v e cs = R
/-- What lit tells of a state, in one form. -/
def LRel (o : Except Wrong (Int × Nat)) (n : Int) (st : Except Wrong Nat) : Prop := match o with
  | .ok (v, m) => n = v ∧ st = .ok m
  | .error x => st = .error x
theorem clauseG_step {vars : Nat} {l : List UInt8} {f k : Nat} {c : List Int} : clauseG vars l (f + 1) k c = match litF vars l k with
    | .error x => .error x
    | .ok (v, e) => litThen vars l f v e c := by
  rw [clauseG_lit]
  cases litF vars l k with
  | error x => rfl
  | ok q => rfl
theorem relI_start {vars : Nat} {l : List UInt8} {k : Nat} (hk : k ≤ l.length) {n : Int} {st : Except Wrong Nat} (h : LRel (litF vars l k) n st) : RelI vars l (clauseF vars l k) st n [] := by
  unfold clauseF
  rw [show l.length + 1 - k = (l.length - k) + 1 by omega, clauseG_step]
  cases hl : litF vars l k with
  | error x =>
    rw [hl] at h
    have h : st = .error x := h
    subst h
    rfl
  | ok q =>
    obtain ⟨v, e⟩ := q
    have := litF_ok hl
    rw [hl] at h
    obtain ⟨rfl, rfl⟩ := h
    exact ⟨l.length - k, by omega, Nat.zero_le _, rfl⟩
theorem relI_step {vars : Nat} {l : List UInt8} {R : Except Wrong (List Int × Nat)} {e : Nat} {v : Int} {cs : List Int} (h : RelI vars l R (.ok e) v cs) (he : e ≤ l.length) (hv : v ≠ 0) {n : Int} {st : Except Wrong Nat} (hn : LRel (litS vars l (wantS [32] l (.ok e))) n st) : RelI vars l R st n (cs ++ [v]) := by
  obtain ⟨f, hf, hc, hR⟩ := h
  unfold litThen at hR
  rw [if_neg hv] at hR
  have hw : wantS [32] l (.ok e) = wantE [32] l e := rfl
  rw [hw] at hn
  cases hw : wantE [32] l e with
  | error x =>
    rw [hw] at hn hR
    have hn : st = .error x := hn
    subst hn
    exact hR.symm
  | ok m =>
    rw [hw] at hn hR
    have hm := wantE_ok hw
    rw [List.length_singleton] at hm
    have hml : m ≤ l.length := by
      unfold wantE at hw
      cases hw2 : wantF [32] l e with
      | some x => rw [hw2] at hw; simp at hw
      | none => have := wantF_ok he hw2; simp at this; omega
    obtain ⟨f', rfl⟩ : ∃ f', f = f' + 1 := ⟨f - 1, by omega⟩
    simp only at hR
    rw [clauseG_step] at hR
    have hn : LRel (litF vars l m) n st := hn
    cases hl : litF vars l m with
    | error x =>
      rw [hl] at hn hR
      have hn : st = .error x := hn
      subst hn
      exact hR.symm
    | ok q =>
      obtain ⟨v2, e2⟩ := q
      have := litF_ok hl
      rw [hl] at hn hR
      obtain ⟨rfl, rfl⟩ := hn
      exact ⟨f', by omega, by rw [List.length_append, List.length_singleton]; omega, hR⟩
theorem relO_step {vars many : Nat} {l : List UInt8} {O : ResF} {k j : Nat} {L : List (List Int)} (h : RelO vars many l O (.ok k) j L) (hj : j < many) {st : Except Wrong Nat} {v : Int} {cs : List Int} (hi : RelI vars l (clauseF vars l k) st v cs) (hx : (∃ x, st = .error x) ∨ v = 0) : RelO vars many l O (wantS [10] l st) (j + 1) (L ++ [cs]) := by
  have h : finF vars l (clausesF vars l (many - j) k L) = O := h
  rw [show many - j = (many - (j + 1)) + 1 by omega, clausesF_step] at h
  match st, hi, hx with
  | .error x, hi, _ =>
    have hi : clauseF vars l k = .error x := hi
    rw [hi] at h
    exact h.symm
  | .ok e, hi, hx =>
    obtain ⟨f, -, -, hR⟩ := hi
    have hv : v = 0 := hx.elim (fun ⟨x, h⟩ => by cases h) id
    unfold litThen at hR
    rw [if_pos hv] at hR
    show RelO vars many l O (wantE [10] l e) (j + 1) (L ++ [cs])
    cases hw : wantE [10] l e with
    | error x =>
      rw [hw] at hR
      rw [← hR] at h
      exact h.symm
    | ok m =>
      rw [hw] at hR
      rw [← hR] at h
      exact h
/-- The formula so far: the struct at block o, its lists' blocks from B on. -/
def GAt (w : World) (B o vars : Nat) (L : List (List Int)) : Prop := ∃ lv us, Blk w o 31 #[.int .i64 (vars : Int), lv] ∧ Row w 23 1 lv L.length us ∧ (∀ g, lv.ownBlock = some g → B ≤ g) ∧ o < B ∧ Cls w (fun g => g < B ∨ lv.ownBlock = some g) us L
theorem GAt.chg {w w' : World} {B o vars a b : Nat} {L : List (List Int)} (h : GAt w B o vars L) (hc : Chg (AB a b) w w') (ha : a < o) (hb : b < o) : GAt w' B o vars L := by
  obtain ⟨lv, us, h1, h2, h3, h4, h5⟩ := h
  refine ⟨lv, us, h1.chg hc (fun e => by rcases e with e | e <;> omega), h2.chg hc (fun g hg e => by have := h3 g hg; rcases e with e | e <;> omega), h3, h4, h5.chg hc (fun g _ e => .inl (by rcases e with e | e <;> omega))⟩
theorem GAt.below {w w' : World} {B o vars : Nat} {L : List (List Int)} (h : GAt w B o vars L) (hb : Below w.heap.size w w') : GAt w' B o vars L := by
  obtain ⟨lv, us, h1, h2, h3, h4, h5⟩ := h
  exact ⟨lv, us, h1.below hb h1.lt, h2.chg (S := fun _ => False) (Chg.of_below hb) (fun _ _ h => h), h3, h4, h5.below hb⟩
/-- One clause more: the row u (younger than w), appended. -/
theorem gat_app {w wa w3 : World} {B o vars a b : Nat} {L : List (List Int)} {cs : List Int} {lv u v' : Value} {us : List Value} (hB : B ≤ w.heap.size)
    (h1 : Blk w o 31 #[.int .i64 (vars : Int), lv]) (h2 : Row w 23 1 lv L.length us) (h3 : ∀ g, lv.ownBlock = some g → B ≤ g) (h4 : o < B) (h5 : Cls w (fun g => g < B ∨ lv.ownBlock = some g) us L)
    (ha : a < o) (hb : b < o) (hc : Chg (AB a b) w wa) (hu : CRow w.heap.size wa u cs) (hp : AppPost (wa.alloc (.cells #[u] 23)) 23 1 lv (L.length + 1) (us ++ [u]) v' w3) :
    GAt (w3.setCell ⟨o, 1, none⟩ v') B o vars (L ++ [cs]) ∧ Chg (fun g => g = o ∨ B ≤ g) wa (w3.setCell ⟨o, 1, none⟩ v') := by
  obtain ⟨p1, p2, p3⟩ := hp
  have hsz := hc.size
  have hz : (wa.alloc (.cells #[u] 23)).heap.size = wa.heap.size + 1 := by simp
  have k1 : Blk wa o 31 #[.int .i64 (vars : Int), lv] := h1.chg hc (fun e => by rcases e with e | e <;> omega)
  have kA : Chg (fun g => g = o ∨ B ≤ g) wa (wa.alloc (.cells #[u] 23)) := (Chg.refl _ wa).alloc _
  have kP : Chg (fun g => g = o ∨ B ≤ g) wa w3 := kA.trans p2 (fun i hi => .inl (.inr (h3 i hi)))
  have kS : Chg (fun g => g = o ∨ B ≤ g) wa (w3.setCell ⟨o, 1, none⟩ v') := kP.setCell (p := ⟨o, 1, none⟩) (.inl (.inl rfl)) _
  have hset : Chg (fun k => k = o) w3 (w3.setCell ⟨o, 1, none⟩ v') := (Chg.refl (fun k => k = o) w3).setCell (p := ⟨o, 1, none⟩) (.inl rfl) _
  have hvB : ∀ g, v'.ownBlock = some g → B ≤ g := fun g hg => by
    rcases p3 with e | e
    · rw [e] at hg; exact h3 g hg
    · rw [e] at hg; injection hg with hg; omega
  refine ⟨⟨v', us ++ [u], ?_, ?_, hvB, h4, ?_⟩, kS⟩
  · have h := ((k1.alloc (.cells #[u] 23)).chg p2 (fun e => by have := h3 o e; omega)).set_ 1 v'
    simpa using h
  · have h := p1.chg hset (fun g hg e => by have := hvB g hg; omega)
    simpa using h
  · have q0 : Cls w (fun g => (g < B ∨ lv.ownBlock = some g) ∨ w.heap.size ≤ g) us L := by
      refine ⟨h5.1, fun j hj => ⟨(h5.2 j hj).1, fun g hg => ?_⟩⟩
      obtain ⟨r1, r2⟩ := (h5.2 j hj).2 g hg
      refine ⟨fun hS => ?_, r2⟩
      rcases hS with hS | hS
      · exact r1 hS
      · omega
    have qa : Cls wa (fun g => (g < B ∨ lv.ownBlock = some g) ∨ w.heap.size ≤ g) us L := q0.chg hc (fun g _ e => .inl (.inl (by rcases e with e | e <;> omega)))
    have q1 : Cls (wa.alloc (.cells #[u] 23)) (fun g => (g < B ∨ lv.ownBlock = some g) ∨ w.heap.size ≤ g) us L := qa.below (below_new1 wa _)
    have q2 : Cls w3 (fun g => (g < B ∨ lv.ownBlock = some g) ∨ w.heap.size ≤ g) us L := q1.chg p2 (fun g _ e => .inl (.inr e))
    have q3 : Cls w3 (fun g => g < B ∨ v'.ownBlock = some g) us L := q2.mono (fun g _ e => by
      rcases e with e | e
      · exact .inl (.inl e)
      · rcases p3 with e' | e'
        · rw [e'] at e; exact .inl (.inr e)
        · rw [e'] at e; injection e with e; exact .inr (by omega))
    have q4 := q3.chg hset (fun g _ e => .inl (by omega))
    have hcs := h2.lt
    refine q4.snoc ?_ ?_
    · refine ((hu.1.alloc (.cells #[u] 23)).chg p2 (fun g hg e => ?_)).chg hset (fun g hg e => ?_) |>.ints
      · have := hu.2 g hg; have := hcs g e; omega
      · have := hu.2 g hg; omega
    · intro g hg
      have k1 := hu.2 g hg
      have k2 := hu.1.lt g hg
      refine ⟨fun e => ?_, ?_⟩
      · rcases e with e | e
        · omega
        · rcases p3 with e' | e'
          · rw [e'] at e; have := hcs g e; omega
          · rw [e'] at e; injection e with e; omega
      · have := kS.size
        omega
end Go.Proofs.YtnpmaphedcfnnaaDoor
