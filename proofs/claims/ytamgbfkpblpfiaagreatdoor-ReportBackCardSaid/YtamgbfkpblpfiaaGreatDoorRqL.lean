/-
  Package report: Parse, walked.
-/
import Derived.Test.YtamgbfkpblpfiaaGreatDoorRqH
import Derived.Test.YtamgbfkpblpfiaaGreatDoorRqE
namespace Go.Proofs.YtamgbfkpblpfiaaGreatDoor
open Go.ChangeShapes Go.WideShapes Go.ChangeAt Go.RowKit
set_option linter.unusedVariables false
set_option linter.unusedSimpArgs false
theorem Chain.apart {w : World} {k : Int} {g : Nat} {cs : Array Value} (hg : Blk w g 49 cs) : ∀ {l : List (Nat × Int)} {v : Value}, Chain w k l v → ∀ p ∈ l, p.1 ≠ g
  | [], _, _, p, hp => absurd hp (List.not_mem_nil)
  | (b, a) :: r, v, ⟨e, u, hb, hr⟩, p, hp => by
    rcases List.mem_cons.1 hp with rfl | hp
    · intro e
      simp only at e
      subst e
      have h1 := hb.symm.trans hg
      injection h1 with h1
      injection h1 with h1 h2 h3
      exact absurd h2 (by decide)
    · exact Chain.apart hg hr p hp
theorem Bad.chg1 {w w' : World} {f p g : Nat} {v : Value} {cs : Array Value} (h : Bad w f p v) (hg : Blk w g 49 cs) (hc : Chg (fun k => k = g) w w') : Bad w' f p v := by
  obtain ⟨ch, h1, h2⟩ := h
  exact ⟨ch, Chain.chg hc h1 (fun p hp => Chain.apart hg h1 p hp), h2⟩
theorem Bad.pointer {w : World} {f p : Nat} {v : Value} (h : Bad w f p v) : ∃ b, v = .iface 49 (.pointer (some ⟨b, 0, none⟩)) := by
  obtain ⟨ch, h1, h2, -⟩ := h
  match ch, h1, h2 with
  | (b, a) :: r, h1, _ => exact ⟨b, h1.1⟩
theorem Told_N {w : World} {v : Value} {f p : Nat} (hL : Laid w) (h : Bad w f p v) : Calls Tryz.prog 21 #[v] w fun e w' => e = .returned (.tuple #[.int .i64 (f : Int), .int .i64 (p : Int)]) ∧ Below w.heap.size w w' := by
  obtain ⟨ch, hc, h2, h3⟩ := h
  refine (Told_C hL hc).mono ?_
  rintro e w' ⟨rfl, hb⟩
  exact ⟨by rw [h3], hb⟩
/-! ### what a line leaves, plainly -/
theorem lineR_le {word : List UInt8} {many : Option Nat} {s r : List UInt8} {ws : List (List UInt8)} (h : lineR word many s = some (ws, r)) : r.length ≤ s.length := by
  rw [(lineR_inv h).1, List.length_append]; omega
theorem rdL_keep {k : Nat} {d d' : RpD} {s r : List UInt8} (h : rdL k d s = some (d', r)) : r.length ≤ s.length ∧ d'.tr = d.tr ∧ (k ≤ 4 → d'.ports = d.ports) := by
  unfold rdL at h
  split at h
  · split at h
    · rename_i hl
      have := lineR_le hl
      split at h
      · injection h with h; injection h with e1 e2; subst e1 e2; exact ⟨this, rfl, fun _ => rfl⟩
      · cases h
    · cases h
  · split at h
    · rename_i hl
      have := lineR_le hl
      split at h
      · injection h with h; injection h with e1 e2; subst e1 e2; exact ⟨this, rfl, fun _ => rfl⟩
      · cases h
    · cases h
  · split at h
    · rename_i hl
      have := lineR_le hl
      split at h
      · split at h
        · injection h with h; injection h with e1 e2; subst e1 e2; exact ⟨this, rfl, fun _ => rfl⟩
        · cases h
      · cases h
    · cases h
  · split at h
    · rename_i hl
      have := lineR_le hl
      split at h
      · split at h
        · injection h with h; injection h with e1 e2; subst e1 e2; exact ⟨this, rfl, fun _ => rfl⟩
        · cases h
      · cases h
    · cases h
  · split at h
    · rename_i hl
      have := lineR_le hl
      split at h
      · injection h with h; injection h with e1 e2; subst e1 e2; exact ⟨this, rfl, fun _ => rfl⟩
      · split at h
        · injection h with h; injection h with e1 e2; subst e1 e2; exact ⟨this, rfl, fun _ => rfl⟩
        · cases h
    · cases h
  · split at h
    · rename_i hl
      have := lineR_le hl
      split at h
      · injection h with h; injection h with e1 e2; subst e1 e2; exact ⟨this, rfl, fun hk => by rename_i h0 h1 h2 h3 h4 _ _ _ _ _ _; exfalso; rcases k with _ | _ | _ | _ | _ | k <;> first | exact h0 rfl | exact h1 rfl | exact h2 rfl | exact h3 rfl | exact h4 rfl | omega⟩
      · cases h
    · cases h
theorem endR_endT (d : RpD) (s : List UInt8) : endR d s = match endT d s 7 with | .fault f p => (if f = 14 then RRes.ill else .bad p) | .ok d' => finR d' := by
  unfold endR endT
  by_cases hv : d.verdict = 2
  · rw [if_pos hv, if_pos hv]
    cases parseT s with
    | bad k => simp only; rw [if_neg (by decide), Nat.add_comm]
    | ill => rfl
    | ok t => rfl
  · rw [if_neg hv, if_neg hv]
    by_cases hs : s = []
    · rw [if_pos hs, if_pos hs]
    · rw [if_neg hs, if_neg hs]
      rfl
end Go.Proofs.YtamgbfkpblpfiaaGreatDoor
/-
  Package report: Parse, walked.
-/
namespace Go.Proofs.YtamgbfkpblpfiaaGreatDoor
open Go.ChangeShapes Go.WideShapes Go.ChangeAt Go.RowKit
set_option linter.unusedVariables false
set_option linter.unusedSimpArgs false
/-- What is told of a text. -/
def resRD : RRes → RpD
  | .ok d => d
  | _ => rpZ
def resRN : RRes → Nat
  | .bad n => n
  | _ => 0
def resRF : RRes → Int
  | .bad _ => 2
  | .ill => 14
  | .ok _ => 0
def ParseRQ (w : World) (p : RRes) (e : Ending) (w' : World) : Prop := Below w.heap.size w w' ∧ ∃ vl vm vi vp, e = .returned (.tuple #[rpV (resRD p) vl vm vi vp, .int .i64 (resRN p : Nat), .int .i64 (resRF p)]) ∧ RpP w' (resRD p) vl vm vi vp
/-- Ahead of the j-th step. -/
def PSt (r : Nat) (P : RRes) (j : Nat) (wr : World) : Prop :=
  (j ≤ 6 ∧ ∃ d rest vp vw, RqAt wr r d (.slice none 0 0) (.slice none 0 0) (.slice none 0 0) vp rest (j + 1) vw ∧ PoAt wr r vp d.ports ∧ (j ≤ 5 → d.ports = []) ∧ d.tr = tr0 ∧ rest.length ≤ 50000 ∧ P = runR (6 - j) j d rest) ∨
  (j = 7 ∧ ∃ d rest vl vm vi vp vw, RqAt wr r d vl vm vi vp rest 8 vw ∧ (∀ W, Chg (fun k => k ≤ r) wr W → RpP W d vl vm vi vp) ∧ P = finR d)
def fnsV (p : Value) : Value := .agg #[.func (.func 13) #[p] #[], .func (.func 14) #[p] #[], .func (.func 15) #[p] #[], .func (.func 16) #[p] #[], .func (.func 17) #[p] #[], .func (.func 18) #[p] #[], .func (.func 19) #[p] #[]]
theorem ix_0 (p : Value) (w : World) : (Instr.index 48 (.agg #[.func (.func 13) #[p] #[], .func (.func 14) #[p] #[], .func (.func 15) #[p] #[], .func (.func 16) #[p] #[], .func (.func 17) #[p] #[], .func (.func 18) #[p] #[], .func (.func 19) #[p] #[]]) (.int .i64 0)).run Tryz.prog w = .ok (.func (.func 13) #[p] #[]) w := by kernel_rfl
theorem ix_1 (p : Value) (w : World) : (Instr.index 48 (.agg #[.func (.func 13) #[p] #[], .func (.func 14) #[p] #[], .func (.func 15) #[p] #[], .func (.func 16) #[p] #[], .func (.func 17) #[p] #[], .func (.func 18) #[p] #[], .func (.func 19) #[p] #[]]) (.int .i64 1)).run Tryz.prog w = .ok (.func (.func 14) #[p] #[]) w := by kernel_rfl
theorem ix_2 (p : Value) (w : World) : (Instr.index 48 (.agg #[.func (.func 13) #[p] #[], .func (.func 14) #[p] #[], .func (.func 15) #[p] #[], .func (.func 16) #[p] #[], .func (.func 17) #[p] #[], .func (.func 18) #[p] #[], .func (.func 19) #[p] #[]]) (.int .i64 2)).run Tryz.prog w = .ok (.func (.func 15) #[p] #[]) w := by kernel_rfl
theorem ix_3 (p : Value) (w : World) : (Instr.index 48 (.agg #[.func (.func 13) #[p] #[], .func (.func 14) #[p] #[], .func (.func 15) #[p] #[], .func (.func 16) #[p] #[], .func (.func 17) #[p] #[], .func (.func 18) #[p] #[], .func (.func 19) #[p] #[]]) (.int .i64 3)).run Tryz.prog w = .ok (.func (.func 16) #[p] #[]) w := by kernel_rfl
theorem ix_4 (p : Value) (w : World) : (Instr.index 48 (.agg #[.func (.func 13) #[p] #[], .func (.func 14) #[p] #[], .func (.func 15) #[p] #[], .func (.func 16) #[p] #[], .func (.func 17) #[p] #[], .func (.func 18) #[p] #[], .func (.func 19) #[p] #[]]) (.int .i64 4)).run Tryz.prog w = .ok (.func (.func 17) #[p] #[]) w := by kernel_rfl
theorem ix_5 (p : Value) (w : World) : (Instr.index 48 (.agg #[.func (.func 13) #[p] #[], .func (.func 14) #[p] #[], .func (.func 15) #[p] #[], .func (.func 16) #[p] #[], .func (.func 17) #[p] #[], .func (.func 18) #[p] #[], .func (.func 19) #[p] #[]]) (.int .i64 5)).run Tryz.prog w = .ok (.func (.func 18) #[p] #[]) w := by kernel_rfl
theorem ix_6 (p : Value) (w : World) : (Instr.index 48 (.agg #[.func (.func 13) #[p] #[], .func (.func 14) #[p] #[], .func (.func 15) #[p] #[], .func (.func 16) #[p] #[], .func (.func 17) #[p] #[], .func (.func 18) #[p] #[], .func (.func 19) #[p] #[]]) (.int .i64 6)).run Tryz.prog w = .ok (.func (.func 19) #[p] #[]) w := by kernel_rfl
theorem RqAt.next {W : World} {r n : Nat} {d : RpD} {vl vm vi vp vw : Value} {rest : List UInt8} (h : RqAt W r d vl vm vi vp rest n vw) : RqAt (W.setCell ⟨r, 13, none⟩ (.int .i64 ((n : Int) + 1))) r d vl vm vi vp rest (n + 1) vw := Blk.set_ h 13 (.int .i64 ((n : Int) + 1))
theorem chg_at (W : World) (r c : Nat) (u : Value) : Chg (fun k => k = r) W (W.setCell ⟨r, c, none⟩ u) := (Chg.refl (fun k => k = r) W).setCell (p := ⟨r, c, none⟩) (.inl rfl) u
theorem PSt.next {w2 : World} {r j : Nat} {P : RRes} {d d' : RpD} {rest rest' : List UInt8} (hj : j ≤ 5) (hd : j ≤ 5 → d.ports = []) (ht : d.tr = tr0) (hl : rest.length ≤ 50000) (hP : P = runR (6 - j) j d rest) (hr : rdL j d rest = some (d', rest'))
    (h : ∃ vp vw, RqAt w2 r d' (.slice none 0 0) (.slice none 0 0) (.slice none 0 0) vp rest' (j + 1) vw ∧ PoAt w2 r vp d'.ports) : PSt r P (j + 1) (w2.setCell ⟨r, 13, none⟩ (.int .i64 (((j + 1 : Nat) : Int) + 1))) := by
  obtain ⟨vp, vw, h1, h2⟩ := h
  obtain ⟨k1, k2, k3⟩ := rdL_keep hr
  refine .inl ⟨by omega, d', rest', vp, vw, h1.next, h2.chg (chg_at _ _ _ _), fun hj5 => (k3 (by omega)).trans (hd hj), k2.trans ht, by omega, ?_⟩
  rw [hP, show 6 - j = (6 - (j + 1)) + 1 by omega, runR, hr]
theorem PSt.last {w2 : World} {r B : Nat} {P : RRes} {d d' : RpD} {rest : List UInt8} {vp vw : Value} (hB : r < B) (hP : P = runR 0 6 d rest) (hr : endT d rest 7 = .ok d') (hpd : d'.ports = d.ports)
    (h : ∃ vl vm vi, RqAt w2 r d' vl vm vi vp rest 7 vw ∧ ∀ W, Chg (fun k => k < B) w2 W → TrP W d'.tr vl vm vi) (hp : PoAt w2 r vp d.ports) : PSt r P 7 (w2.setCell ⟨r, 13, none⟩ (.int .i64 (((7 : Nat) : Int) + 1))) := by
  obtain ⟨vl, vm, vi, h1, h2⟩ := h
  refine .inr ⟨rfl, d', rest, vl, vm, vi, vp, vw, h1.next, fun W hW => ⟨h2 _ (((chg_at _ _ _ _).mono (fun i hi => (by omega : i < B))).trans hW (fun i hi => .inl (by omega))), ?_⟩, ?_⟩
  · rw [hpd]; exact ((hp.chg (chg_at _ _ _ _)).far hW).1.ints
  · rw [hP, runR, endR_endT, hr]
theorem endT_fault {d : RpD} {s : List UInt8} {n f p : Nat} (h : endT d s n = .fault f p) : f = 2 ∨ f = 14 := by
  unfold endT at h
  split at h
  · split at h
    · injection h with h; exact .inl h.symm
    · injection h with h; exact .inr h.symm
    · cases h
  · split at h
    · cases h
    · injection h with h; exact .inl h.symm
theorem endT_ports {d d' : RpD} {s : List UInt8} {n : Nat} (h : endT d s n = .ok d') : d'.ports = d.ports := by
  unfold endT at h
  split at h
  · split at h
    · cases h
    · cases h
    · injection h with h; rw [← h]
  · split at h
    · injection h with h; rw [h]
    · cases h
theorem cells12 {w : World} {g n : Nat} {d : RpD} {vl vm vi vp vw : Value} {rest : List UInt8} (h : RqAt w g d vl vm vi vp rest n vw) : w.cell? ⟨g, 0, none⟩ = some (.int .i64 d.verdict) ∧ w.cell? ⟨g, 1, none⟩ = some (.int .i64 d.depth) ∧ w.cell? ⟨g, 2, none⟩ = some (.int .i64 d.fault) ∧ w.cell? ⟨g, 3, none⟩ = some (.int .i64 d.place) ∧ w.cell? ⟨g, 4, none⟩ = some vl ∧ w.cell? ⟨g, 5, none⟩ = some vm ∧ w.cell? ⟨g, 6, none⟩ = some vi ∧ w.cell? ⟨g, 7, none⟩ = some (.int .i64 d.tr.bad) ∧ w.cell? ⟨g, 8, none⟩ = some (.int .i64 d.calls) ∧ w.cell? ⟨g, 9, none⟩ = some (.int .i64 d.conf) ∧ w.cell? ⟨g, 10, none⟩ = some (.bool d.spent) ∧ w.cell? ⟨g, 11, none⟩ = some vp :=
  ⟨h.cell 0, h.cell 1, h.cell 2, h.cell 3, h.cell 4, h.cell 5, h.cell 6, h.cell 7, h.cell 8, h.cell 9, h.cell 10, h.cell 11⟩
theorem bad_of {P : RRes} {j : Nat} {d : RpD} {rest : List UInt8} (hj : j ≤ 5) (hP : P = runR (6 - j) j d rest) (hr : rdL j d rest = none) : P = .bad (j + 1) := by
  rw [hP, show 6 - j = (6 - (j + 1)) + 1 by omega, runR, hr]
theorem set12 {B g : Nat} {w W : World} (h : Below B w W) (hg : B ≤ g) (a0 a1 a2 a3 a4 a5 a6 a7 a8 a9 a10 a11 : Value) : Below B w ((((((((((((W.setCell ⟨g, 0, none⟩ a0).setCell ⟨g, 1, none⟩ a1).setCell ⟨g, 2, none⟩ a2).setCell ⟨g, 3, none⟩ a3).setCell ⟨g, 4, none⟩ a4).setCell ⟨g, 5, none⟩ a5).setCell ⟨g, 6, none⟩ a6).setCell ⟨g, 7, none⟩ a7).setCell ⟨g, 8, none⟩ a8).setCell ⟨g, 9, none⟩ a9).setCell ⟨g, 10, none⟩ a10).setCell ⟨g, 11, none⟩ a11) :=
  (((((((((((h.setCell (p := ⟨g, 0, none⟩) hg _).setCell (p := ⟨g, 1, none⟩) hg _).setCell (p := ⟨g, 2, none⟩) hg _).setCell (p := ⟨g, 3, none⟩) hg _).setCell (p := ⟨g, 4, none⟩) hg _).setCell (p := ⟨g, 5, none⟩) hg _).setCell (p := ⟨g, 6, none⟩) hg _).setCell (p := ⟨g, 7, none⟩) hg _).setCell (p := ⟨g, 8, none⟩) hg _).setCell (p := ⟨g, 9, none⟩) hg _).setCell (p := ⟨g, 10, none⟩) hg _).setCell (p := ⟨g, 11, none⟩) hg _
theorem blk12 {W : World} {g : Nat} {b0 b1 b2 b3 b4 b5 b6 b7 b8 b9 b10 b11 : Value} (h : Blk W g 33 #[b0, b1, b2, b3, b4, b5, b6, b7, b8, b9, b10, b11]) (a0 a1 a2 a3 a4 a5 a6 a7 a8 a9 a10 a11 : Value) : Blk ((((((((((((W.setCell ⟨g, 0, none⟩ a0).setCell ⟨g, 1, none⟩ a1).setCell ⟨g, 2, none⟩ a2).setCell ⟨g, 3, none⟩ a3).setCell ⟨g, 4, none⟩ a4).setCell ⟨g, 5, none⟩ a5).setCell ⟨g, 6, none⟩ a6).setCell ⟨g, 7, none⟩ a7).setCell ⟨g, 8, none⟩ a8).setCell ⟨g, 9, none⟩ a9).setCell ⟨g, 10, none⟩ a10).setCell ⟨g, 11, none⟩ a11) g 33 #[a0, a1, a2, a3, a4, a5, a6, a7, a8, a9, a10, a11] := by
  have h0 : Blk _ g 33 #[a0, b1, b2, b3, b4, b5, b6, b7, b8, b9, b10, b11] := h.set_ 0 a0
  have h1 : Blk _ g 33 #[a0, a1, b2, b3, b4, b5, b6, b7, b8, b9, b10, b11] := h0.set_ 1 a1
  have h2 : Blk _ g 33 #[a0, a1, a2, b3, b4, b5, b6, b7, b8, b9, b10, b11] := h1.set_ 2 a2
  have h3 : Blk _ g 33 #[a0, a1, a2, a3, b4, b5, b6, b7, b8, b9, b10, b11] := h2.set_ 3 a3
  have h4 : Blk _ g 33 #[a0, a1, a2, a3, a4, b5, b6, b7, b8, b9, b10, b11] := h3.set_ 4 a4
  have h5 : Blk _ g 33 #[a0, a1, a2, a3, a4, a5, b6, b7, b8, b9, b10, b11] := h4.set_ 5 a5
  have h6 : Blk _ g 33 #[a0, a1, a2, a3, a4, a5, a6, b7, b8, b9, b10, b11] := h5.set_ 6 a6
  have h7 : Blk _ g 33 #[a0, a1, a2, a3, a4, a5, a6, a7, b8, b9, b10, b11] := h6.set_ 7 a7
  have h8 : Blk _ g 33 #[a0, a1, a2, a3, a4, a5, a6, a7, a8, b9, b10, b11] := h7.set_ 8 a8
  have h9 : Blk _ g 33 #[a0, a1, a2, a3, a4, a5, a6, a7, a8, a9, b10, b11] := h8.set_ 9 a9
  have h10 : Blk _ g 33 #[a0, a1, a2, a3, a4, a5, a6, a7, a8, a9, a10, b11] := h9.set_ 10 a10
  have h11 : Blk _ g 33 #[a0, a1, a2, a3, a4, a5, a6, a7, a8, a9, a10, a11] := h10.set_ 11 a11
  exact h11
theorem chg12 (W : World) (g : Nat) (a0 a1 a2 a3 a4 a5 a6 a7 a8 a9 a10 a11 : Value) : Chg (fun k => k = g) W ((((((((((((W.setCell ⟨g, 0, none⟩ a0).setCell ⟨g, 1, none⟩ a1).setCell ⟨g, 2, none⟩ a2).setCell ⟨g, 3, none⟩ a3).setCell ⟨g, 4, none⟩ a4).setCell ⟨g, 5, none⟩ a5).setCell ⟨g, 6, none⟩ a6).setCell ⟨g, 7, none⟩ a7).setCell ⟨g, 8, none⟩ a8).setCell ⟨g, 9, none⟩ a9).setCell ⟨g, 10, none⟩ a10).setCell ⟨g, 11, none⟩ a11) :=
  ((((((((((((Chg.refl (fun k => k = g) W).setCell (p := ⟨g, 0, none⟩) (.inl rfl) _).setCell (p := ⟨g, 1, none⟩) (.inl rfl) _).setCell (p := ⟨g, 2, none⟩) (.inl rfl) _).setCell (p := ⟨g, 3, none⟩) (.inl rfl) _).setCell (p := ⟨g, 4, none⟩) (.inl rfl) _).setCell (p := ⟨g, 5, none⟩) (.inl rfl) _).setCell (p := ⟨g, 6, none⟩) (.inl rfl) _).setCell (p := ⟨g, 7, none⟩) (.inl rfl) _).setCell (p := ⟨g, 8, none⟩) (.inl rfl) _).setCell (p := ⟨g, 9, none⟩) (.inl rfl) _).setCell (p := ⟨g, 10, none⟩) (.inl rfl) _).setCell (p := ⟨g, 11, none⟩) (.inl rfl) _
theorem below_all {B g : Nat} {w wA wr wE w2 w3 w4 : World} (h0 : Below B w wA) (hc : Chg (fun k => k = g + 1) wA wr) (hg : B ≤ g) (hae : Below wr.heap.size wr wE) (h2 : Chg (fun k => k = g + 1) wE w2) (h3 : Chg (fun k => k = wr.heap.size) w2 w3) (h4 : Below w3.heap.size w3 w4) (hB : B ≤ wA.heap.size) : Below B w w4 := by
  have s1 := hc.size
  have s2 := hae.size
  have s3 := h2.size
  have s4 := h3.size
  exact (((((h0.trans (hc.below hB (fun i hi => by omega))).trans (hae.mono (by omega))).trans (h2.below (by omega) (fun i hi => by omega))).trans (h3.below (by omega) (fun i hi => by omega))).trans (h4.mono (by omega)))
theorem rpP0 (w : World) : RpP w rpZ (.slice none 0 0) (.slice none 0 0) (.slice none 0 0) (.slice none 0 0) := ⟨tr0_at w, ints_nil w⟩
set_option maxHeartbeats 8000000 in
set_option maxRecDepth 100000 in
theorem report_Parse {w : World} {s : List UInt8} (hm : MaxL w) (hL : Laid w) (hl : s.length ≤ 50000) :
    Calls Tryz.prog 6 #[.string (bs s)] w (ParseRQ w (parseR s)) := by
  obtain ⟨g, hg⟩ : ∃ g, g = w.heap.size := ⟨_, rfl⟩
  obtain ⟨P, hP⟩ : ∃ P, P = parseR s := ⟨_, rfl⟩
  rw [← hP]
  obtain ⟨z, hz⟩ : ∃ z : Array Value, z = #[.int .i64 0, .int .i64 0, .int .i64 0, .int .i64 0, (.slice none 0 0), (.slice none 0 0), (.slice none 0 0), .int .i64 0, .int .i64 0, .int .i64 0, .bool false, (.slice none 0 0)] := ⟨_, rfl⟩
  obtain ⟨wA, hwA⟩ : ∃ wA, wA = (w.alloc (.cells z 33)).alloc (.cells (rqA rpZ (.slice none 0 0) (.slice none 0 0) (.slice none 0 0) (.slice none 0 0) s 1 (.slice none 0 0)) 46) := ⟨_, rfl⟩
  have hB0 : Below w.heap.size w wA := by rw [hwA]; exact ((Below.refl _ w).alloc (Nat.le_refl _) _).alloc (by simp) _
  have hTA : Blk wA g 33 z := by rw [hwA, hg]; exact (Blk.new w _ _).alloc _
  have hRA : RqAt wA (g + 1) rpZ (.slice none 0 0) (.slice none 0 0) (.slice none 0 0) (.slice none 0 0) s 1 (.slice none 0 0) := by
    have := Blk.new (w.alloc (.cells z 33)) 46 (rqA rpZ (.slice none 0 0) (.slice none 0 0) (.slice none 0 0) (.slice none 0 0) s 1 (.slice none 0 0))
    rw [show (w.alloc (.cells z 33)).heap.size = w.heap.size + 1 by simp] at this
    rw [hwA, hg]
    exact this
  have HST : Hid (PSt (g + 1) P 0 wA) := Lib.hid (.inl ⟨by omega, rpZ, s, (.slice none 0 0), (.slice none 0 0), hRA, ⟨World.ownsRow_nil _ _ _ _, fun k hk => by simp [Value.ownBlock] at hk, fun _ => rfl⟩, fun _ => rfl, rfl, hl, hP⟩)
  have h2 := hm.2
  have HB0 := Lib.hid hB0
  have HTA := Lib.hid hTA
  have HLA := Lib.hid (hL.below hB0)
  have HMA := Lib.hid (hm.below hB0)
  have HG := Lib.hid hg
  have HWA := Lib.hid hwA
  have HGB : Hid (w.heap.size ≤ g) := Lib.hid (by omega)
  have HG2 : Hid (2 < g) := Lib.hid (by omega)
  rw [hz] at HWA HTA
  unfold rqA rpZ tr0 at HWA
  simp only at HWA
  rw [show ((1 : Nat) : Int) = 1 from rfl] at HWA
  clear hm hL hP hg hwA hB0 hTA hRA h2 hz hl
  generalize bs s = sv at *
  go_enter Tryz.func6, Tryz.ntmps6
  go_wp2_with fail
  rw [← HG.out, ← HWA.out]
  go_loopw [30] (fun c wr => ∃ j : Nat, j ≤ 7 ∧ c = .int .i64 j ∧ PSt (g + 1) P j wr ∧ Chg (fun k => k = g + 1) wA wr) (fun c _ => 7 - (intOf c).toNat)
  case atStart => exact ⟨0, by omega, rfl, HST.out, Chg.refl _ _⟩
  case round =>
    obtain ⟨j, hj, rfl, hps, hch⟩ := hrel
    have HCH := Lib.hid hch
    have hTr := HTA.out.chg hch (by omega)
    have HTR := Lib.hid hTr
    have HLR := Lib.hid (HLA.out.chg hch (by omega))
    have HMR := Lib.hid (HMA.out.chg hch (by have := HG2.out; omega))
    rcases hps with ⟨hj6, d, rest, vp, vw, hat, hpo, hpd, htr, hle, hP⟩ | ⟨rfl, d, rest, vl, vm, vi, vp, vw, hat, hrp, hP⟩
    · have hAE : Below wr.heap.size wr (wr.alloc (.cells #[.pointer none] 49)) := (Below.refl _ wr).alloc (Nat.le_refl _) _
      have HAT := Lib.hid (hat.below hAE)
      have HPO := Lib.hid (hpo.chg (Chg.of_below hAE))
      have HPD := Lib.hid hpd
      have HTR0 := Lib.hid htr
      have HLE := Lib.hid hle
      have HP := Lib.hid hP
      have HME := Lib.hid (HMR.out.below hAE)
      have HLE2 := Lib.hid (HLR.out.below hAE)
      have HEB := Lib.hid (Blk.new wr 49 #[.pointer none])
      have HAE := Lib.hid hAE
      have HGR : Hid (g + 1 < wr.heap.size) := Lib.hid hat.lt
      clear hat hpo hpd htr hle hP hAE hch hTr hj
      match j, hj6 with
      | 0, _ =>
        have HSQ := Lib.hid (verdict_ HAT.out HPO.out HME.out HLE2.out (by have := HLE.out; omega))
        have hix := fun w => ix_0 (.pointer (some ⟨g + 1, 0, none⟩)) w
        go_wp2_with fail
        refine HSQ.out.mono ?_
        rintro e w2 ⟨hc2, ho⟩
        cases hr : rdL 0 d rest with
        | none =>
          have HPB : Hid (P = .bad 1) := Lib.hid (bad_of (by omega) HP.out hr)
          rw [hr] at ho
          obtain ⟨v, rfl, hbv⟩ := ho
          clear hr hix
          have HBV := Lib.hid hbv
          obtain ⟨xb, rfl⟩ := hbv.pointer
          have HE2 := Lib.hid (HEB.out.chg hc2 (by have := HTR.out.lt; have := HGR.out; omega))
          have HL2 := Lib.hid (HLE2.out.chg hc2 (by omega))
          have HAS := Lib.hid (As_hitE (e := ⟨xb, 0, none⟩) HL2.out HE2.out)
          have HC2 := Lib.hid hc2
          clear hc2 hbv
          go_wp2_with fail
          refine HAS.out.mono ?_
          rintro e w3 ⟨rfl, hap⟩
          have HL3 := Lib.hid (HL2.out.chg hap.2 (by have := HTR.out.lt; omega))
          have HTN := Lib.hid (Told_N HL3.out (HBV.out.chg1 HE2.out hap.2))
          have HC3 := Lib.hid hap.2
          clear hap
          go_wp2_with fail
          refine HTN.out.mono ?_
          rintro e w4 ⟨rfl, hb4⟩
          have hT4 := (((HTR.out.below HAE.out HTR.out.lt).chg HC2.out (by omega)).chg HC3.out (by have := HTR.out.lt; omega)).below hb4 (by have := HTR.out.lt; have := HC2.out.size; have := HC3.out.size; have := HAE.out.size; omega)
          have HB4 := Lib.hid (below_all HB0.out HCH.out HGB.out HAE.out HC2.out HC3.out hb4 HB0.out.size)
          have HT4 := Lib.hid hT4
          obtain ⟨c0, c1, c2, c3, c4, c5, c6, c7, c8, c9, c10, c11⟩ := load_agg12 hT4
          have f0 := hT4.frozen 0
          have f1 := hT4.frozen 1
          have f2 := hT4.frozen 2
          have f3 := hT4.frozen 3
          have f4 := hT4.frozen 4
          have f5 := hT4.frozen 5
          have f6 := hT4.frozen 6
          have f7 := hT4.frozen 7
          have f8 := hT4.frozen 8
          have f9 := hT4.frozen 9
          have f10 := hT4.frozen 10
          have f11 := hT4.frozen 11
          clear hT4 hb4
          go_wp2_with fail
          clear f0 c0 f1 c1 f2 c2 f3 c3 f4 c4 f5 c5 f6 c6 f7 c7 f8 c8 f9 c9 f10 c10 f11 c11
          obtain ⟨p0, p1, p2, p3, p4, p5, p6, p7, p8, p9, p10, p11⟩ := load_agg12 (blk12 HT4.out (.int .i64 0) (.int .i64 0) (.int .i64 0) (.int .i64 0) (.slice none 0 0) (.slice none 0 0) (.slice none 0 0) (.int .i64 0) (.int .i64 0) (.int .i64 0) (.bool false) (.slice none 0 0))
          refine bodyPost_ret (v := .tuple #[.agg #[.int .i64 0, .int .i64 0, .int .i64 0, .int .i64 0, (.slice none 0 0), (.slice none 0 0), (.slice none 0 0), .int .i64 0, .int .i64 0, .int .i64 0, .bool false, (.slice none 0 0)], .int .i64 1, .int .i64 2]) (by simp [results, Tryz.results6, go_sem, p0, p1, p2, p3, p4, p5, p6, p7, p8, p9, p10, p11]) rfl ?_
          exact ⟨set12 HB4.out HGB.out _ _ _ _ _ _ _ _ _ _ _ _, (.slice none 0 0), (.slice none 0 0), (.slice none 0 0), (.slice none 0 0), by rw [HPB.out]; rfl, by rw [HPB.out]; exact rpP0 _⟩
        | some q =>
          obtain ⟨d', rest'⟩ := q
          rw [hr] at ho
          obtain ⟨rfl, hx⟩ := ho
          have HNX := Lib.hid (PSt.next (by omega) HPD.out HTR0.out HLE.out HP.out hr hx)
          obtain ⟨vp', vw', hx1, -⟩ := hx
          have c13 : w2.cell? ⟨g + 1, 13, none⟩ = some (.int .i64 1) := hx1.num.1
          have f13 := hx1.num.2
          have HCN := Lib.hid (HCH.out.trans ((Chg.of_below (S := fun k => k = g + 1) HAE.out).trans (hc2.trans (chg_at w2 (g + 1) 13 (.int .i64 2)) (fun i hi => .inl hi)) (fun i hi => .inl hi)) (fun i hi => .inl hi))
          clear hc2 hx1 hr hix
          go_wp2_with fail
          refine (As_nil _ _).mono ?_
          rintro e w3 ⟨rfl, rfl⟩
          go_wp2_with fail
          go_roundw
          case rel => exact ⟨1, by omega, by go_num, HNX.out, HCN.out⟩
          case measure => simp [intOf]
      | 1, _ =>
        have HSQ := Lib.hid (depth_ HAT.out HPO.out HME.out HLE2.out (by have := HLE.out; omega))
        have hix := fun w => ix_1 (.pointer (some ⟨g + 1, 0, none⟩)) w
        go_wp2_with fail
        refine HSQ.out.mono ?_
        rintro e w2 ⟨hc2, ho⟩
        cases hr : rdL 1 d rest with
        | none =>
          have HPB : Hid (P = .bad 2) := Lib.hid (bad_of (by omega) HP.out hr)
          rw [hr] at ho
          obtain ⟨v, rfl, hbv⟩ := ho
          clear hr hix
          have HBV := Lib.hid hbv
          obtain ⟨xb, rfl⟩ := hbv.pointer
          have HE2 := Lib.hid (HEB.out.chg hc2 (by have := HTR.out.lt; have := HGR.out; omega))
          have HL2 := Lib.hid (HLE2.out.chg hc2 (by omega))
          have HAS := Lib.hid (As_hitE (e := ⟨xb, 0, none⟩) HL2.out HE2.out)
          have HC2 := Lib.hid hc2
          clear hc2 hbv
          go_wp2_with fail
          refine HAS.out.mono ?_
          rintro e w3 ⟨rfl, hap⟩
          have HL3 := Lib.hid (HL2.out.chg hap.2 (by have := HTR.out.lt; omega))
          have HTN := Lib.hid (Told_N HL3.out (HBV.out.chg1 HE2.out hap.2))
          have HC3 := Lib.hid hap.2
          clear hap
          go_wp2_with fail
          refine HTN.out.mono ?_
          rintro e w4 ⟨rfl, hb4⟩
          have hT4 := (((HTR.out.below HAE.out HTR.out.lt).chg HC2.out (by omega)).chg HC3.out (by have := HTR.out.lt; omega)).below hb4 (by have := HTR.out.lt; have := HC2.out.size; have := HC3.out.size; have := HAE.out.size; omega)
          have HB4 := Lib.hid (below_all HB0.out HCH.out HGB.out HAE.out HC2.out HC3.out hb4 HB0.out.size)
          have HT4 := Lib.hid hT4
          obtain ⟨c0, c1, c2, c3, c4, c5, c6, c7, c8, c9, c10, c11⟩ := load_agg12 hT4
          have f0 := hT4.frozen 0
          have f1 := hT4.frozen 1
          have f2 := hT4.frozen 2
          have f3 := hT4.frozen 3
          have f4 := hT4.frozen 4
          have f5 := hT4.frozen 5
          have f6 := hT4.frozen 6
          have f7 := hT4.frozen 7
          have f8 := hT4.frozen 8
          have f9 := hT4.frozen 9
          have f10 := hT4.frozen 10
          have f11 := hT4.frozen 11
          clear hT4 hb4
          go_wp2_with fail
          clear f0 c0 f1 c1 f2 c2 f3 c3 f4 c4 f5 c5 f6 c6 f7 c7 f8 c8 f9 c9 f10 c10 f11 c11
          obtain ⟨p0, p1, p2, p3, p4, p5, p6, p7, p8, p9, p10, p11⟩ := load_agg12 (blk12 HT4.out (.int .i64 0) (.int .i64 0) (.int .i64 0) (.int .i64 0) (.slice none 0 0) (.slice none 0 0) (.slice none 0 0) (.int .i64 0) (.int .i64 0) (.int .i64 0) (.bool false) (.slice none 0 0))
          refine bodyPost_ret (v := .tuple #[.agg #[.int .i64 0, .int .i64 0, .int .i64 0, .int .i64 0, (.slice none 0 0), (.slice none 0 0), (.slice none 0 0), .int .i64 0, .int .i64 0, .int .i64 0, .bool false, (.slice none 0 0)], .int .i64 2, .int .i64 2]) (by simp [results, Tryz.results6, go_sem, p0, p1, p2, p3, p4, p5, p6, p7, p8, p9, p10, p11]) rfl ?_
          exact ⟨set12 HB4.out HGB.out _ _ _ _ _ _ _ _ _ _ _ _, (.slice none 0 0), (.slice none 0 0), (.slice none 0 0), (.slice none 0 0), by rw [HPB.out]; rfl, by rw [HPB.out]; exact rpP0 _⟩
        | some q =>
          obtain ⟨d', rest'⟩ := q
          rw [hr] at ho
          obtain ⟨rfl, hx⟩ := ho
          have HNX := Lib.hid (PSt.next (by omega) HPD.out HTR0.out HLE.out HP.out hr hx)
          obtain ⟨vp', vw', hx1, -⟩ := hx
          have c13 : w2.cell? ⟨g + 1, 13, none⟩ = some (.int .i64 2) := hx1.num.1
          have f13 := hx1.num.2
          have HCN := Lib.hid (HCH.out.trans ((Chg.of_below (S := fun k => k = g + 1) HAE.out).trans (hc2.trans (chg_at w2 (g + 1) 13 (.int .i64 3)) (fun i hi => .inl hi)) (fun i hi => .inl hi)) (fun i hi => .inl hi))
          clear hc2 hx1 hr hix
          go_wp2_with fail
          refine (As_nil _ _).mono ?_
          rintro e w3 ⟨rfl, rfl⟩
          go_wp2_with fail
          go_roundw
          case rel => exact ⟨2, by omega, by go_num, HNX.out, HCN.out⟩
          case measure => simp [intOf]
      | 2, _ =>
        have HSQ := Lib.hid (fault_ HAT.out HPO.out HME.out HLE2.out (by have := HLE.out; omega))
        have hix := fun w => ix_2 (.pointer (some ⟨g + 1, 0, none⟩)) w
        go_wp2_with fail
        refine HSQ.out.mono ?_
        rintro e w2 ⟨hc2, ho⟩
        cases hr : rdL 2 d rest with
        | none =>
          have HPB : Hid (P = .bad 3) := Lib.hid (bad_of (by omega) HP.out hr)
          rw [hr] at ho
          obtain ⟨v, rfl, hbv⟩ := ho
          clear hr hix
          have HBV := Lib.hid hbv
          obtain ⟨xb, rfl⟩ := hbv.pointer
          have HE2 := Lib.hid (HEB.out.chg hc2 (by have := HTR.out.lt; have := HGR.out; omega))
          have HL2 := Lib.hid (HLE2.out.chg hc2 (by omega))
          have HAS := Lib.hid (As_hitE (e := ⟨xb, 0, none⟩) HL2.out HE2.out)
          have HC2 := Lib.hid hc2
          clear hc2 hbv
          go_wp2_with fail
          refine HAS.out.mono ?_
          rintro e w3 ⟨rfl, hap⟩
          have HL3 := Lib.hid (HL2.out.chg hap.2 (by have := HTR.out.lt; omega))
          have HTN := Lib.hid (Told_N HL3.out (HBV.out.chg1 HE2.out hap.2))
          have HC3 := Lib.hid hap.2
          clear hap
          go_wp2_with fail
          refine HTN.out.mono ?_
          rintro e w4 ⟨rfl, hb4⟩
          have hT4 := (((HTR.out.below HAE.out HTR.out.lt).chg HC2.out (by omega)).chg HC3.out (by have := HTR.out.lt; omega)).below hb4 (by have := HTR.out.lt; have := HC2.out.size; have := HC3.out.size; have := HAE.out.size; omega)
          have HB4 := Lib.hid (below_all HB0.out HCH.out HGB.out HAE.out HC2.out HC3.out hb4 HB0.out.size)
          have HT4 := Lib.hid hT4
          obtain ⟨c0, c1, c2, c3, c4, c5, c6, c7, c8, c9, c10, c11⟩ := load_agg12 hT4
          have f0 := hT4.frozen 0
          have f1 := hT4.frozen 1
          have f2 := hT4.frozen 2
          have f3 := hT4.frozen 3
          have f4 := hT4.frozen 4
          have f5 := hT4.frozen 5
          have f6 := hT4.frozen 6
          have f7 := hT4.frozen 7
          have f8 := hT4.frozen 8
          have f9 := hT4.frozen 9
          have f10 := hT4.frozen 10
          have f11 := hT4.frozen 11
          clear hT4 hb4
          go_wp2_with fail
          clear f0 c0 f1 c1 f2 c2 f3 c3 f4 c4 f5 c5 f6 c6 f7 c7 f8 c8 f9 c9 f10 c10 f11 c11
          obtain ⟨p0, p1, p2, p3, p4, p5, p6, p7, p8, p9, p10, p11⟩ := load_agg12 (blk12 HT4.out (.int .i64 0) (.int .i64 0) (.int .i64 0) (.int .i64 0) (.slice none 0 0) (.slice none 0 0) (.slice none 0 0) (.int .i64 0) (.int .i64 0) (.int .i64 0) (.bool false) (.slice none 0 0))
          refine bodyPost_ret (v := .tuple #[.agg #[.int .i64 0, .int .i64 0, .int .i64 0, .int .i64 0, (.slice none 0 0), (.slice none 0 0), (.slice none 0 0), .int .i64 0, .int .i64 0, .int .i64 0, .bool false, (.slice none 0 0)], .int .i64 3, .int .i64 2]) (by simp [results, Tryz.results6, go_sem, p0, p1, p2, p3, p4, p5, p6, p7, p8, p9, p10, p11]) rfl ?_
          exact ⟨set12 HB4.out HGB.out _ _ _ _ _ _ _ _ _ _ _ _, (.slice none 0 0), (.slice none 0 0), (.slice none 0 0), (.slice none 0 0), by rw [HPB.out]; rfl, by rw [HPB.out]; exact rpP0 _⟩
        | some q =>
          obtain ⟨d', rest'⟩ := q
          rw [hr] at ho
          obtain ⟨rfl, hx⟩ := ho
          have HNX := Lib.hid (PSt.next (by omega) HPD.out HTR0.out HLE.out HP.out hr hx)
          obtain ⟨vp', vw', hx1, -⟩ := hx
          have c13 : w2.cell? ⟨g + 1, 13, none⟩ = some (.int .i64 3) := hx1.num.1
          have f13 := hx1.num.2
          have HCN := Lib.hid (HCH.out.trans ((Chg.of_below (S := fun k => k = g + 1) HAE.out).trans (hc2.trans (chg_at w2 (g + 1) 13 (.int .i64 4)) (fun i hi => .inl hi)) (fun i hi => .inl hi)) (fun i hi => .inl hi))
          clear hc2 hx1 hr hix
          go_wp2_with fail
          refine (As_nil _ _).mono ?_
          rintro e w3 ⟨rfl, rfl⟩
          go_wp2_with fail
          go_roundw
          case rel => exact ⟨3, by omega, by go_num, HNX.out, HCN.out⟩
          case measure => simp [intOf]
      | 3, _ =>
        have HSQ := Lib.hid (calls_ HAT.out HPO.out HME.out HLE2.out (by have := HLE.out; omega))
        have hix := fun w => ix_3 (.pointer (some ⟨g + 1, 0, none⟩)) w
        go_wp2_with fail
        refine HSQ.out.mono ?_
        rintro e w2 ⟨hc2, ho⟩
        cases hr : rdL 3 d rest with
        | none =>
          have HPB : Hid (P = .bad 4) := Lib.hid (bad_of (by omega) HP.out hr)
          rw [hr] at ho
          obtain ⟨v, rfl, hbv⟩ := ho
          clear hr hix
          have HBV := Lib.hid hbv
          obtain ⟨xb, rfl⟩ := hbv.pointer
          have HE2 := Lib.hid (HEB.out.chg hc2 (by have := HTR.out.lt; have := HGR.out; omega))
          have HL2 := Lib.hid (HLE2.out.chg hc2 (by omega))
          have HAS := Lib.hid (As_hitE (e := ⟨xb, 0, none⟩) HL2.out HE2.out)
          have HC2 := Lib.hid hc2
          clear hc2 hbv
          go_wp2_with fail
          refine HAS.out.mono ?_
          rintro e w3 ⟨rfl, hap⟩
          have HL3 := Lib.hid (HL2.out.chg hap.2 (by have := HTR.out.lt; omega))
          have HTN := Lib.hid (Told_N HL3.out (HBV.out.chg1 HE2.out hap.2))
          have HC3 := Lib.hid hap.2
          clear hap
          go_wp2_with fail
          refine HTN.out.mono ?_
          rintro e w4 ⟨rfl, hb4⟩
          have hT4 := (((HTR.out.below HAE.out HTR.out.lt).chg HC2.out (by omega)).chg HC3.out (by have := HTR.out.lt; omega)).below hb4 (by have := HTR.out.lt; have := HC2.out.size; have := HC3.out.size; have := HAE.out.size; omega)
          have HB4 := Lib.hid (below_all HB0.out HCH.out HGB.out HAE.out HC2.out HC3.out hb4 HB0.out.size)
          have HT4 := Lib.hid hT4
          obtain ⟨c0, c1, c2, c3, c4, c5, c6, c7, c8, c9, c10, c11⟩ := load_agg12 hT4
          have f0 := hT4.frozen 0
          have f1 := hT4.frozen 1
          have f2 := hT4.frozen 2
          have f3 := hT4.frozen 3
          have f4 := hT4.frozen 4
          have f5 := hT4.frozen 5
          have f6 := hT4.frozen 6
          have f7 := hT4.frozen 7
          have f8 := hT4.frozen 8
          have f9 := hT4.frozen 9
          have f10 := hT4.frozen 10
          have f11 := hT4.frozen 11
          clear hT4 hb4
          go_wp2_with fail
          clear f0 c0 f1 c1 f2 c2 f3 c3 f4 c4 f5 c5 f6 c6 f7 c7 f8 c8 f9 c9 f10 c10 f11 c11
          obtain ⟨p0, p1, p2, p3, p4, p5, p6, p7, p8, p9, p10, p11⟩ := load_agg12 (blk12 HT4.out (.int .i64 0) (.int .i64 0) (.int .i64 0) (.int .i64 0) (.slice none 0 0) (.slice none 0 0) (.slice none 0 0) (.int .i64 0) (.int .i64 0) (.int .i64 0) (.bool false) (.slice none 0 0))
          refine bodyPost_ret (v := .tuple #[.agg #[.int .i64 0, .int .i64 0, .int .i64 0, .int .i64 0, (.slice none 0 0), (.slice none 0 0), (.slice none 0 0), .int .i64 0, .int .i64 0, .int .i64 0, .bool false, (.slice none 0 0)], .int .i64 4, .int .i64 2]) (by simp [results, Tryz.results6, go_sem, p0, p1, p2, p3, p4, p5, p6, p7, p8, p9, p10, p11]) rfl ?_
          exact ⟨set12 HB4.out HGB.out _ _ _ _ _ _ _ _ _ _ _ _, (.slice none 0 0), (.slice none 0 0), (.slice none 0 0), (.slice none 0 0), by rw [HPB.out]; rfl, by rw [HPB.out]; exact rpP0 _⟩
        | some q =>
          obtain ⟨d', rest'⟩ := q
          rw [hr] at ho
          obtain ⟨rfl, hx⟩ := ho
          have HNX := Lib.hid (PSt.next (by omega) HPD.out HTR0.out HLE.out HP.out hr hx)
          obtain ⟨vp', vw', hx1, -⟩ := hx
          have c13 : w2.cell? ⟨g + 1, 13, none⟩ = some (.int .i64 4) := hx1.num.1
          have f13 := hx1.num.2
          have HCN := Lib.hid (HCH.out.trans ((Chg.of_below (S := fun k => k = g + 1) HAE.out).trans (hc2.trans (chg_at w2 (g + 1) 13 (.int .i64 5)) (fun i hi => .inl hi)) (fun i hi => .inl hi)) (fun i hi => .inl hi))
          clear hc2 hx1 hr hix
          go_wp2_with fail
          refine (As_nil _ _).mono ?_
          rintro e w3 ⟨rfl, rfl⟩
          go_wp2_with fail
          go_roundw
          case rel => exact ⟨4, by omega, by go_num, HNX.out, HCN.out⟩
          case measure => simp [intOf]
      | 4, _ =>
        have HSQ := Lib.hid (spent_ HAT.out HPO.out HME.out HLE2.out (by have := HLE.out; omega))
        have hix := fun w => ix_4 (.pointer (some ⟨g + 1, 0, none⟩)) w
        go_wp2_with fail
        refine HSQ.out.mono ?_
        rintro e w2 ⟨hc2, ho⟩
        cases hr : rdL 4 d rest with
        | none =>
          have HPB : Hid (P = .bad 5) := Lib.hid (bad_of (by omega) HP.out hr)
          rw [hr] at ho
          obtain ⟨v, rfl, hbv⟩ := ho
          clear hr hix
          have HBV := Lib.hid hbv
          obtain ⟨xb, rfl⟩ := hbv.pointer
          have HE2 := Lib.hid (HEB.out.chg hc2 (by have := HTR.out.lt; have := HGR.out; omega))
          have HL2 := Lib.hid (HLE2.out.chg hc2 (by omega))
          have HAS := Lib.hid (As_hitE (e := ⟨xb, 0, none⟩) HL2.out HE2.out)
          have HC2 := Lib.hid hc2
          clear hc2 hbv
          go_wp2_with fail
          refine HAS.out.mono ?_
          rintro e w3 ⟨rfl, hap⟩
          have HL3 := Lib.hid (HL2.out.chg hap.2 (by have := HTR.out.lt; omega))
          have HTN := Lib.hid (Told_N HL3.out (HBV.out.chg1 HE2.out hap.2))
          have HC3 := Lib.hid hap.2
          clear hap
          go_wp2_with fail
          refine HTN.out.mono ?_
          rintro e w4 ⟨rfl, hb4⟩
          have hT4 := (((HTR.out.below HAE.out HTR.out.lt).chg HC2.out (by omega)).chg HC3.out (by have := HTR.out.lt; omega)).below hb4 (by have := HTR.out.lt; have := HC2.out.size; have := HC3.out.size; have := HAE.out.size; omega)
          have HB4 := Lib.hid (below_all HB0.out HCH.out HGB.out HAE.out HC2.out HC3.out hb4 HB0.out.size)
          have HT4 := Lib.hid hT4
          obtain ⟨c0, c1, c2, c3, c4, c5, c6, c7, c8, c9, c10, c11⟩ := load_agg12 hT4
          have f0 := hT4.frozen 0
          have f1 := hT4.frozen 1
          have f2 := hT4.frozen 2
          have f3 := hT4.frozen 3
          have f4 := hT4.frozen 4
          have f5 := hT4.frozen 5
          have f6 := hT4.frozen 6
          have f7 := hT4.frozen 7
          have f8 := hT4.frozen 8
          have f9 := hT4.frozen 9
          have f10 := hT4.frozen 10
          have f11 := hT4.frozen 11
          clear hT4 hb4
          go_wp2_with fail
          clear f0 c0 f1 c1 f2 c2 f3 c3 f4 c4 f5 c5 f6 c6 f7 c7 f8 c8 f9 c9 f10 c10 f11 c11
          obtain ⟨p0, p1, p2, p3, p4, p5, p6, p7, p8, p9, p10, p11⟩ := load_agg12 (blk12 HT4.out (.int .i64 0) (.int .i64 0) (.int .i64 0) (.int .i64 0) (.slice none 0 0) (.slice none 0 0) (.slice none 0 0) (.int .i64 0) (.int .i64 0) (.int .i64 0) (.bool false) (.slice none 0 0))
          refine bodyPost_ret (v := .tuple #[.agg #[.int .i64 0, .int .i64 0, .int .i64 0, .int .i64 0, (.slice none 0 0), (.slice none 0 0), (.slice none 0 0), .int .i64 0, .int .i64 0, .int .i64 0, .bool false, (.slice none 0 0)], .int .i64 5, .int .i64 2]) (by simp [results, Tryz.results6, go_sem, p0, p1, p2, p3, p4, p5, p6, p7, p8, p9, p10, p11]) rfl ?_
          exact ⟨set12 HB4.out HGB.out _ _ _ _ _ _ _ _ _ _ _ _, (.slice none 0 0), (.slice none 0 0), (.slice none 0 0), (.slice none 0 0), by rw [HPB.out]; rfl, by rw [HPB.out]; exact rpP0 _⟩
        | some q =>
          obtain ⟨d', rest'⟩ := q
          rw [hr] at ho
          obtain ⟨rfl, hx⟩ := ho
          have HNX := Lib.hid (PSt.next (by omega) HPD.out HTR0.out HLE.out HP.out hr hx)
          obtain ⟨vp', vw', hx1, -⟩ := hx
          have c13 : w2.cell? ⟨g + 1, 13, none⟩ = some (.int .i64 5) := hx1.num.1
          have f13 := hx1.num.2
          have HCN := Lib.hid (HCH.out.trans ((Chg.of_below (S := fun k => k = g + 1) HAE.out).trans (hc2.trans (chg_at w2 (g + 1) 13 (.int .i64 6)) (fun i hi => .inl hi)) (fun i hi => .inl hi)) (fun i hi => .inl hi))
          clear hc2 hx1 hr hix
          go_wp2_with fail
          refine (As_nil _ _).mono ?_
          rintro e w3 ⟨rfl, rfl⟩
          go_wp2_with fail
          go_roundw
          case rel => exact ⟨5, by omega, by go_num, HNX.out, HCN.out⟩
          case measure => simp [intOf]
      | 5, _ =>
        have HSQ := Lib.hid (ports_ HAT.out HPO.out (HPD.out (by omega)) HME.out HLE2.out (by have := HLE.out; omega))
        have hix := fun w => ix_5 (.pointer (some ⟨g + 1, 0, none⟩)) w
        go_wp2_with fail
        refine HSQ.out.mono ?_
        rintro e w2 ⟨hc2, ho⟩
        cases hr : rdL 5 d rest with
        | none =>
          have HPB : Hid (P = .bad 6) := Lib.hid (bad_of (by omega) HP.out hr)
          rw [hr] at ho
          obtain ⟨v, rfl, hbv⟩ := ho
          clear hr hix
          have HBV := Lib.hid hbv
          obtain ⟨xb, rfl⟩ := hbv.pointer
          have HE2 := Lib.hid (HEB.out.chg hc2 (by have := HTR.out.lt; have := HGR.out; omega))
          have HL2 := Lib.hid (HLE2.out.chg hc2 (by omega))
          have HAS := Lib.hid (As_hitE (e := ⟨xb, 0, none⟩) HL2.out HE2.out)
          have HC2 := Lib.hid hc2
          clear hc2 hbv
          go_wp2_with fail
          refine HAS.out.mono ?_
          rintro e w3 ⟨rfl, hap⟩
          have HL3 := Lib.hid (HL2.out.chg hap.2 (by have := HTR.out.lt; omega))
          have HTN := Lib.hid (Told_N HL3.out (HBV.out.chg1 HE2.out hap.2))
          have HC3 := Lib.hid hap.2
          clear hap
          go_wp2_with fail
          refine HTN.out.mono ?_
          rintro e w4 ⟨rfl, hb4⟩
          have hT4 := (((HTR.out.below HAE.out HTR.out.lt).chg HC2.out (by omega)).chg HC3.out (by have := HTR.out.lt; omega)).below hb4 (by have := HTR.out.lt; have := HC2.out.size; have := HC3.out.size; have := HAE.out.size; omega)
          have HB4 := Lib.hid (below_all HB0.out HCH.out HGB.out HAE.out HC2.out HC3.out hb4 HB0.out.size)
          have HT4 := Lib.hid hT4
          obtain ⟨c0, c1, c2, c3, c4, c5, c6, c7, c8, c9, c10, c11⟩ := load_agg12 hT4
          have f0 := hT4.frozen 0
          have f1 := hT4.frozen 1
          have f2 := hT4.frozen 2
          have f3 := hT4.frozen 3
          have f4 := hT4.frozen 4
          have f5 := hT4.frozen 5
          have f6 := hT4.frozen 6
          have f7 := hT4.frozen 7
          have f8 := hT4.frozen 8
          have f9 := hT4.frozen 9
          have f10 := hT4.frozen 10
          have f11 := hT4.frozen 11
          clear hT4 hb4
          go_wp2_with fail
          clear f0 c0 f1 c1 f2 c2 f3 c3 f4 c4 f5 c5 f6 c6 f7 c7 f8 c8 f9 c9 f10 c10 f11 c11
          obtain ⟨p0, p1, p2, p3, p4, p5, p6, p7, p8, p9, p10, p11⟩ := load_agg12 (blk12 HT4.out (.int .i64 0) (.int .i64 0) (.int .i64 0) (.int .i64 0) (.slice none 0 0) (.slice none 0 0) (.slice none 0 0) (.int .i64 0) (.int .i64 0) (.int .i64 0) (.bool false) (.slice none 0 0))
          refine bodyPost_ret (v := .tuple #[.agg #[.int .i64 0, .int .i64 0, .int .i64 0, .int .i64 0, (.slice none 0 0), (.slice none 0 0), (.slice none 0 0), .int .i64 0, .int .i64 0, .int .i64 0, .bool false, (.slice none 0 0)], .int .i64 6, .int .i64 2]) (by simp [results, Tryz.results6, go_sem, p0, p1, p2, p3, p4, p5, p6, p7, p8, p9, p10, p11]) rfl ?_
          exact ⟨set12 HB4.out HGB.out _ _ _ _ _ _ _ _ _ _ _ _, (.slice none 0 0), (.slice none 0 0), (.slice none 0 0), (.slice none 0 0), by rw [HPB.out]; rfl, by rw [HPB.out]; exact rpP0 _⟩
        | some q =>
          obtain ⟨d', rest'⟩ := q
          rw [hr] at ho
          obtain ⟨rfl, hx⟩ := ho
          have HNX := Lib.hid (PSt.next (by omega) HPD.out HTR0.out HLE.out HP.out hr hx)
          obtain ⟨vp', vw', hx1, -⟩ := hx
          have c13 : w2.cell? ⟨g + 1, 13, none⟩ = some (.int .i64 6) := hx1.num.1
          have f13 := hx1.num.2
          have HCN := Lib.hid (HCH.out.trans ((Chg.of_below (S := fun k => k = g + 1) HAE.out).trans (hc2.trans (chg_at w2 (g + 1) 13 (.int .i64 7)) (fun i hi => .inl hi)) (fun i hi => .inl hi)) (fun i hi => .inl hi))
          clear hc2 hx1 hr hix
          go_wp2_with fail
          refine (As_nil _ _).mono ?_
          rintro e w3 ⟨rfl, rfl⟩
          go_wp2_with fail
          go_roundw
          case rel => exact ⟨6, by omega, by go_num, HNX.out, HCN.out⟩
          case measure => simp [intOf]
      | 6, _ =>
        have HSQ := Lib.hid (rtrace_ (n := 7) HAT.out HTR0.out HME.out HLE2.out HLE.out)
        have hix := fun w => ix_6 (.pointer (some ⟨g + 1, 0, none⟩)) w
        go_wp2_with fail
        refine HSQ.out.mono ?_
        rintro e w2 ⟨hc2, ho⟩
        cases hr : endT d rest 7 with
        | fault f p =>
          rw [hr] at ho
          obtain ⟨v, rfl, hbv⟩ := ho
          rcases endT_fault hr with rfl | rfl
          · have HPB : Hid (P = .bad p) := Lib.hid (by rw [HP.out]; show endR d rest = _; rw [endR_endT, hr]; rfl)
            clear hr hix
            have HBV := Lib.hid hbv
            obtain ⟨xb, rfl⟩ := hbv.pointer
            have HE2 := Lib.hid (HEB.out.chg hc2 (by have := HTR.out.lt; have := HGR.out; omega))
            have HL2 := Lib.hid (HLE2.out.chg hc2 (by omega))
            have HAS := Lib.hid (As_hitE (e := ⟨xb, 0, none⟩) HL2.out HE2.out)
            have HC2 := Lib.hid hc2
            clear hc2 hbv
            go_wp2_with fail
            refine HAS.out.mono ?_
            rintro e w3 ⟨rfl, hap⟩
            have HL3 := Lib.hid (HL2.out.chg hap.2 (by have := HTR.out.lt; omega))
            have HTN := Lib.hid (Told_N HL3.out (HBV.out.chg1 HE2.out hap.2))
            have HC3 := Lib.hid hap.2
            clear hap
            go_wp2_with fail
            refine HTN.out.mono ?_
            rintro e w4 ⟨rfl, hb4⟩
            have hT4 := (((HTR.out.below HAE.out HTR.out.lt).chg HC2.out (by omega)).chg HC3.out (by have := HTR.out.lt; omega)).below hb4 (by have := HTR.out.lt; have := HC2.out.size; have := HC3.out.size; have := HAE.out.size; omega)
            have HB4 := Lib.hid (below_all HB0.out HCH.out HGB.out HAE.out HC2.out HC3.out hb4 HB0.out.size)
            have HT4 := Lib.hid hT4
            obtain ⟨c0, c1, c2, c3, c4, c5, c6, c7, c8, c9, c10, c11⟩ := load_agg12 hT4
            have f0 := hT4.frozen 0
            have f1 := hT4.frozen 1
            have f2 := hT4.frozen 2
            have f3 := hT4.frozen 3
            have f4 := hT4.frozen 4
            have f5 := hT4.frozen 5
            have f6 := hT4.frozen 6
            have f7 := hT4.frozen 7
            have f8 := hT4.frozen 8
            have f9 := hT4.frozen 9
            have f10 := hT4.frozen 10
            have f11 := hT4.frozen 11
            clear hT4 hb4
            go_wp2_with fail
            clear f0 c0 f1 c1 f2 c2 f3 c3 f4 c4 f5 c5 f6 c6 f7 c7 f8 c8 f9 c9 f10 c10 f11 c11
            obtain ⟨p0, p1, p2, p3, p4, p5, p6, p7, p8, p9, p10, p11⟩ := load_agg12 (blk12 HT4.out (.int .i64 0) (.int .i64 0) (.int .i64 0) (.int .i64 0) (.slice none 0 0) (.slice none 0 0) (.slice none 0 0) (.int .i64 0) (.int .i64 0) (.int .i64 0) (.bool false) (.slice none 0 0))
            refine bodyPost_ret (v := .tuple #[.agg #[.int .i64 0, .int .i64 0, .int .i64 0, .int .i64 0, (.slice none 0 0), (.slice none 0 0), (.slice none 0 0), .int .i64 0, .int .i64 0, .int .i64 0, .bool false, (.slice none 0 0)], .int .i64 p, .int .i64 2]) (by simp [results, Tryz.results6, go_sem, p0, p1, p2, p3, p4, p5, p6, p7, p8, p9, p10, p11]) rfl ?_
            exact ⟨set12 HB4.out HGB.out _ _ _ _ _ _ _ _ _ _ _ _, (.slice none 0 0), (.slice none 0 0), (.slice none 0 0), (.slice none 0 0), by rw [HPB.out]; rfl, by rw [HPB.out]; exact rpP0 _⟩
          · have HPB : Hid (P = .ill) := Lib.hid (by rw [HP.out]; show endR d rest = _; rw [endR_endT, hr]; rfl)
            clear hr hix
            have HBV := Lib.hid hbv
            obtain ⟨xb, rfl⟩ := hbv.pointer
            have HE2 := Lib.hid (HEB.out.chg hc2 (by have := HTR.out.lt; have := HGR.out; omega))
            have HL2 := Lib.hid (HLE2.out.chg hc2 (by omega))
            have HAS := Lib.hid (As_hitE (e := ⟨xb, 0, none⟩) HL2.out HE2.out)
            have HC2 := Lib.hid hc2
            clear hc2 hbv
            go_wp2_with fail
            refine HAS.out.mono ?_
            rintro e w3 ⟨rfl, hap⟩
            have HL3 := Lib.hid (HL2.out.chg hap.2 (by have := HTR.out.lt; omega))
            have HTN := Lib.hid (Told_N HL3.out (HBV.out.chg1 HE2.out hap.2))
            have HC3 := Lib.hid hap.2
            clear hap
            go_wp2_with fail
            refine HTN.out.mono ?_
            rintro e w4 ⟨rfl, hb4⟩
            have hT4 := (((HTR.out.below HAE.out HTR.out.lt).chg HC2.out (by omega)).chg HC3.out (by have := HTR.out.lt; omega)).below hb4 (by have := HTR.out.lt; have := HC2.out.size; have := HC3.out.size; have := HAE.out.size; omega)
            have HB4 := Lib.hid (below_all HB0.out HCH.out HGB.out HAE.out HC2.out HC3.out hb4 HB0.out.size)
            have HT4 := Lib.hid hT4
            obtain ⟨c0, c1, c2, c3, c4, c5, c6, c7, c8, c9, c10, c11⟩ := load_agg12 hT4
            have f0 := hT4.frozen 0
            have f1 := hT4.frozen 1
            have f2 := hT4.frozen 2
            have f3 := hT4.frozen 3
            have f4 := hT4.frozen 4
            have f5 := hT4.frozen 5
            have f6 := hT4.frozen 6
            have f7 := hT4.frozen 7
            have f8 := hT4.frozen 8
            have f9 := hT4.frozen 9
            have f10 := hT4.frozen 10
            have f11 := hT4.frozen 11
            clear hT4 hb4
            go_wp2_with fail
            clear f0 c0 f1 c1 f2 c2 f3 c3 f4 c4 f5 c5 f6 c6 f7 c7 f8 c8 f9 c9 f10 c10 f11 c11
            obtain ⟨p0, p1, p2, p3, p4, p5, p6, p7, p8, p9, p10, p11⟩ := load_agg12 (blk12 HT4.out (.int .i64 0) (.int .i64 0) (.int .i64 0) (.int .i64 0) (.slice none 0 0) (.slice none 0 0) (.slice none 0 0) (.int .i64 0) (.int .i64 0) (.int .i64 0) (.bool false) (.slice none 0 0))
            refine bodyPost_ret (v := .tuple #[.agg #[.int .i64 0, .int .i64 0, .int .i64 0, .int .i64 0, (.slice none 0 0), (.slice none 0 0), (.slice none 0 0), .int .i64 0, .int .i64 0, .int .i64 0, .bool false, (.slice none 0 0)], .int .i64 0, .int .i64 14]) (by simp [results, Tryz.results6, go_sem, p0, p1, p2, p3, p4, p5, p6, p7, p8, p9, p10, p11]) rfl ?_
            exact ⟨set12 HB4.out HGB.out _ _ _ _ _ _ _ _ _ _ _ _, (.slice none 0 0), (.slice none 0 0), (.slice none 0 0), (.slice none 0 0), by rw [HPB.out]; rfl, by rw [HPB.out]; exact rpP0 _⟩
        | ok d' =>
          rw [hr] at ho
          obtain ⟨rfl, hx⟩ := ho
          have HNX := Lib.hid (PSt.last (by have := HGR.out; have := HAE.out.size; omega) HP.out hr (endT_ports hr) hx (HPO.out.chg hc2))
          obtain ⟨vl', vm', vi', hx1, -⟩ := hx
          have c13 : w2.cell? ⟨g + 1, 13, none⟩ = some (.int .i64 7) := hx1.num.1
          have f13 := hx1.num.2
          have HCN := Lib.hid (HCH.out.trans ((Chg.of_below (S := fun k => k = g + 1) HAE.out).trans (hc2.trans (chg_at w2 (g + 1) 13 (.int .i64 8)) (fun i hi => .inl hi)) (fun i hi => .inl hi)) (fun i hi => .inl hi))
          clear hc2 hx1 hr hix
          go_wp2_with fail
          refine (As_nil _ _).mono ?_
          rintro e w3 ⟨rfl, rfl⟩
          go_wp2_with fail
          go_roundw
          case rel => exact ⟨7, by omega, by go_num, HNX.out, HCN.out⟩
          case measure => simp [intOf]
    · have hrp0 := hrp wr (Chg.refl _ _)
      obtain ⟨A1, d1, rfl⟩ := hrp0.tr.lat.len
      obtain ⟨A2, d2, rfl, -, -⟩ := hrp0.tr.mems.form
      obtain ⟨A3, d3, rfl, -, -⟩ := hrp0.tr.ins.form
      obtain ⟨A4, d4, rfl, -⟩ := hrp0.ports
      obtain ⟨n1, hn1⟩ : ∃ n, n = d.tr.lat.length := ⟨_, rfl⟩
      obtain ⟨n2, hn2⟩ : ∃ n, n = d.tr.mems.length := ⟨_, rfl⟩
      obtain ⟨n3, hn3⟩ : ∃ n, n = d.tr.ins.length := ⟨_, rfl⟩
      obtain ⟨n4, hn4⟩ : ∃ n, n = d.ports.length := ⟨_, rfl⟩
      have HRT := Lib.hid (report_Right hrp0)
      unfold rpV at HRT
      rw [← hn1, ← hn2, ← hn3, ← hn4] at HRT hrp hat
      have HAT := Lib.hid hat
      have HRP := Lib.hid hrp
      have HBR := Lib.hid (HB0.out.trans (hch.below HB0.out.size (fun i hi => by have := HGB.out; omega)))
      have HP := Lib.hid hP
      obtain ⟨k0, k1, k2, k3, k4, k5, k6, k7, k8, k9, k10, k11⟩ := cells12 hat
      have HNN : Hid (n1 = d.tr.lat.length ∧ n2 = d.tr.mems.length ∧ n3 = d.tr.ins.length ∧ n4 = d.ports.length) := Lib.hid ⟨hn1, hn2, hn3, hn4⟩
      clear hrp0 hn1 hn2 hn3 hn4 hch hTr hat hrp hP hj
      cases hrr : rightR d with
      | false =>
        have HPB : Hid (P = .ill) := Lib.hid (by rw [HP.out, finR, if_neg (by rw [hrr]; decide)])
        rw [hrr] at HRT
        clear hrr
        go_wp2_with fail
        refine HRT.out.mono ?_
        rintro e w4 ⟨rfl, hb4⟩
        have hT4 := HTR.out.below hb4 HTR.out.lt
        have HT4 := Lib.hid hT4
        have HB4 := Lib.hid (HBR.out.trans (hb4.mono HBR.out.size))
        clear k0 k1 k2 k3 k4 k5 k6 k7 k8 k9 k10 k11
        obtain ⟨c0, c1, c2, c3, c4, c5, c6, c7, c8, c9, c10, c11⟩ := load_agg12 hT4
        have f0 := hT4.frozen 0
        have f1 := hT4.frozen 1
        have f2 := hT4.frozen 2
        have f3 := hT4.frozen 3
        have f4 := hT4.frozen 4
        have f5 := hT4.frozen 5
        have f6 := hT4.frozen 6
        have f7 := hT4.frozen 7
        have f8 := hT4.frozen 8
        have f9 := hT4.frozen 9
        have f10 := hT4.frozen 10
        have f11 := hT4.frozen 11
        clear hT4 hb4
        go_wp2_with fail
        clear f0 c0 f1 c1 f2 c2 f3 c3 f4 c4 f5 c5 f6 c6 f7 c7 f8 c8 f9 c9 f10 c10 f11 c11
        obtain ⟨p0, p1, p2, p3, p4, p5, p6, p7, p8, p9, p10, p11⟩ := load_agg12 (blk12 HT4.out (.int .i64 0) (.int .i64 0) (.int .i64 0) (.int .i64 0) (.slice none 0 0) (.slice none 0 0) (.slice none 0 0) (.int .i64 0) (.int .i64 0) (.int .i64 0) (.bool false) (.slice none 0 0))
        refine bodyPost_ret (v := .tuple #[.agg #[.int .i64 0, .int .i64 0, .int .i64 0, .int .i64 0, (.slice none 0 0), (.slice none 0 0), (.slice none 0 0), .int .i64 0, .int .i64 0, .int .i64 0, .bool false, (.slice none 0 0)], .int .i64 0, .int .i64 14]) (by simp [results, Tryz.results6, go_sem, p0, p1, p2, p3, p4, p5, p6, p7, p8, p9, p10, p11]) rfl ?_
        exact ⟨set12 HB4.out HGB.out _ _ _ _ _ _ _ _ _ _ _ _, (.slice none 0 0), (.slice none 0 0), (.slice none 0 0), (.slice none 0 0), by rw [HPB.out]; rfl, by rw [HPB.out]; exact rpP0 _⟩
      | true =>
        have HPB : Hid (P = .ok d) := Lib.hid (by rw [HP.out, finR, if_pos hrr])
        rw [hrr] at HRT
        clear hrr
        go_wp2_with fail
        refine HRT.out.mono ?_
        rintro e w4 ⟨rfl, hb4⟩
        have hT4 := HTR.out.below hb4 HTR.out.lt
        have HT4 := Lib.hid hT4
        have HB4 := Lib.hid (HBR.out.trans (hb4.mono HBR.out.size))
        have HBW := Lib.hid hb4
        have hat4 := HAT.out.below hb4
        clear k0 k1 k2 k3 k4 k5 k6 k7 k8 k9 k10 k11
        obtain ⟨k0, k1, k2, k3, k4, k5, k6, k7, k8, k9, k10, k11⟩ := cells12 hat4
        obtain ⟨c0, c1, c2, c3, c4, c5, c6, c7, c8, c9, c10, c11⟩ := load_agg12 hT4
        have f0 := hT4.frozen 0
        have f1 := hT4.frozen 1
        have f2 := hT4.frozen 2
        have f3 := hT4.frozen 3
        have f4 := hT4.frozen 4
        have f5 := hT4.frozen 5
        have f6 := hT4.frozen 6
        have f7 := hT4.frozen 7
        have f8 := hT4.frozen 8
        have f9 := hT4.frozen 9
        have f10 := hT4.frozen 10
        have f11 := hT4.frozen 11
        clear hT4 hb4 hat4
        go_wp2_with fail
        clear f0 c0 f1 c1 f2 c2 f3 c3 f4 c4 f5 c5 f6 c6 f7 c7 f8 c8 f9 c9 f10 c10 f11 c11 k0 k1 k2 k3 k4 k5 k6 k7 k8 k9 k10 k11
        obtain ⟨p0, p1, p2, p3, p4, p5, p6, p7, p8, p9, p10, p11⟩ := load_agg12 (blk12 HT4.out (.int .i64 d.verdict) (.int .i64 d.depth) (.int .i64 d.fault) (.int .i64 d.place) (.slice A1 n1 d1) (.slice A2 n2 d2) (.slice A3 n3 d3) (.int .i64 d.tr.bad) (.int .i64 d.calls) (.int .i64 d.conf) (.bool d.spent) (.slice A4 n4 d4))
        refine bodyPost_ret (v := .tuple #[.agg #[.int .i64 d.verdict, .int .i64 d.depth, .int .i64 d.fault, .int .i64 d.place, .slice A1 n1 d1, .slice A2 n2 d2, .slice A3 n3 d3, .int .i64 d.tr.bad, .int .i64 d.calls, .int .i64 d.conf, .bool d.spent, .slice A4 n4 d4], .int .i64 0, .int .i64 0]) (by simp [results, Tryz.results6, go_sem, p0, p1, p2, p3, p4, p5, p6, p7, p8, p9, p10, p11]) rfl ?_
        refine ⟨set12 HB4.out HGB.out _ _ _ _ _ _ _ _ _ _ _ _, .slice A1 n1 d1, .slice A2 n2 d2, .slice A3 n3 d3, .slice A4 n4 d4, by rw [HPB.out]; rfl, ?_⟩
        rw [HPB.out]
        exact HRP.out _ ((Chg.of_below (S := fun k => k ≤ g + 1) HBW.out).trans (chg12 _ _ _ _ _ _ _ _ _ _ _ _ _ _) (fun i hi => .inl (by omega)))
end Go.Proofs.YtamgbfkpblpfiaaGreatDoor
