/-
  Package trim: a clause that came, and a proof's step, recorded.
-/
import Derived.Test.YtknpfopepedmmaaTmB
namespace Go.Proofs.Ytknpfopepedmmaa
open Go Go.ChangeShapes Go.WideShapes Go.ChangeAt Go.RowKit Go.Maps
set_option linter.unusedVariables false
set_option linter.unusedSimpArgs false
abbrev rp (b : Nat) : Value := .pointer (some ⟨b, 0, none⟩)
section
variable {w wr : World} {rb r : Nat} {S : RS} {hv tv : Value} {us : List Value} {ws : List (List Nat)} {ts : List Nat} {E : Nat → Prop}
def RecR (w : World) (rb r : Nat) (s : TrS) (wr : World) : Prop := ∃ hv tv us, RecX w wr rb r s.S hv tv us s.ws s.ts (fun _ => False)
theorem RecX.fresh (h : RecX w wr rb r S hv tv us ws ts E) {E2 : Nat → Prop} (hY : ∀ g, E2 g → E g ∨ wr.heap.size ≤ g) : RecX w wr rb r S hv tv us ws ts E2 :=
  ⟨h.x.fresh (fun g hg => by
    rcases hg with e | e
    · exact .inl (.inl e)
    · rcases hY g e with e | e
      · exact .inl (.inr e)
      · exact .inr e), h.b, h.h, h.c, h.t, h.o1, h.o2, h.o3⟩
theorem RecX.add (h : RecX w wr rb r S hv tv us ws ts E) (hE : ∀ g, E g → g < wr.heap.size) (hcl : S.cl.length ≤ 99999) {u : Value} {c : List Int} (hu : Ints wr u c) (hc : Lit30s c) (hl : c.length ≤ 1000000) :
    Calls Try.prog 14 #[kp r, u] wr fun e w' => e = .returned (.int .i64 (S.cl.length : Nat)) ∧ RecX w w' rb r (S.add (normC c)) hv tv us ws ts E ∧ Chg (fun g => w.heap.size ≤ g ∧ ¬ (XR rb hv tv us g ∨ E g)) wr w' := by
  refine (h.x.add (fun g hg => hg.elim (h.lt g) (hE g)) hcl hu hc hl).mono ?_
  rintro e w' ⟨rfl, hx, hch⟩
  exact ⟨rfl, h.call hx hch, hch⟩
theorem RecX.rem (h : RecX w wr rb r S hv tv us ws ts E) (hE : ∀ g, E g → g < wr.heap.size) (hcl : S.cl.length ≤ 99999) {u : Value} {c : List Int} (hu : Ints wr u c) (hc : Lit30s c) (hl : c.length ≤ 1000000) :
    Calls Try.prog 15 #[kp r, u] wr fun e w' => e = .returned (.tuple #[.int .i64 (seekI S (normC c)), .bool (S.seek (normC c)).isSome]) ∧ RecX w w' rb r (S.rem (normC c)) hv tv us ws ts E ∧ Chg (fun g => w.heap.size ≤ g ∧ ¬ (XR rb hv tv us g ∨ E g)) wr w' := by
  refine (h.x.rem (fun g hg => hg.elim (h.lt g) (hE g)) (by omega) hu hc hl).mono ?_
  rintro e w' ⟨rfl, hx, hch⟩
  exact ⟨rfl, h.call hx hch, hch⟩
theorem RecX.why (h : RecX w wr rb r S hv tv us ws ts E) (hE : ∀ g, E g → g < wr.heap.size) (hcl : S.cl.length ≤ 99999) {u : Value} {c : List Int} (hu : Ints wr u c) (hc : Lit30s c) (hl : c.length ≤ 1000000) :
    Calls Try.prog 17 #[kp r, u] wr fun e w' => ∃ (v : Value) (is : Bool) (R : List Nat), e = .returned (.tuple #[v, .bool is]) ∧ WhyR S c is R ∧ RecX w w' rb r S hv tv us ws ts (fun g => E g ∨ v.ownBlock = some g) ∧ Ints w' v (natI R) ∧ (∀ g, v.ownBlock = some g → wr.heap.size ≤ g ∧ g < w'.heap.size) ∧ Chg (fun g => w.heap.size ≤ g ∧ ¬ (XR rb hv tv us g ∨ E g)) wr w' := by
  refine (h.x.why (fun g hg => hg.elim (h.lt g) (hE g)) (by omega) hu hc hl).mono ?_
  rintro e w' ⟨v, is, R, rfl, hy, hx, hch, hrow, hvo⟩
  refine ⟨v, is, R, rfl, hy, h.call (hx.weak (fun g hg => ?_)) hch, row_natI hrow, fun g hg => ⟨hvo g hg, hrow.lt g hg⟩, hch⟩
  rcases hg with e | e | e
  · exact .inl (.inl e)
  · exact .inl (.inr e)
  · exact .inr e
set_option maxHeartbeats 2000000 in
theorem trim_input (h : RecX w wr rb r S hv tv us ws ts (fun _ => False)) (hcl : S.cl.length ≤ 9999) (hwl : ws.length ≤ 9999) {u : Value} {c : List Int} (hu : Ints wr u c) (hc : Lit30s c) (hl : c.length ≤ 1000000) :
    Calls Try.prog 59 #[rp rb, u] wr fun e w' => e = .returned (.tuple #[]) ∧ RecR w rb r (TrS.inp ⟨S, ws, ts⟩ c) w' := by
  have c0 : wr.cell? ⟨rb, 0, none⟩ = some (kp r) := h.b.cell 0
  have HAD := Lib.hid (h.add (fun g hg => hg.elim) (by omega) hu hc hl)
  have HW := Lib.hid hwl
  clear h hcl hu hc hl hwl
  go_enter Try.func59, Try.ntmps59
  go_wp2_with fail
  refine HAD.out.mono ?_
  rintro e w1 ⟨rfl, h1, -⟩
  have H1 := Lib.hid h1
  have c1 : w1.cell? ⟨rb, 1, none⟩ = some hv := h1.b.cell 1
  obtain ⟨hn, hc, hve⟩ : ∃ a c, hv = .slice a ws.length c := by
    rcases h1.h.form with ⟨e, e0, -⟩ | ⟨g, cap, e, -⟩
    · exact ⟨none, 0, by rw [e, e0]⟩
    · exact ⟨_, cap, e⟩
  clear h1
  subst hve
  go_wp2_with (at_builtin; refine wpList_appS rfl _ _ _ rfl 28 (.slice none 0 0) 1 24 Try.underlying26 infoL rfl (by decide) (.slice hn ws.length hc) ws.length us rfl (H1.out.h.alloc _) (some ⟨w1.heap.size, 0, none⟩) 1 1 [.slice none 0 0] rfl (Src.one (heap_new1 _ _)) (fun u9 hu9 => by rw [List.mem_singleton.1 hu9]; rfl) (by have := HW.out; unfold maxLen; omega) (by have := HW.out; omega) ?_)
  intro v3 w3 h3
  obtain ⟨g3, cp3, rfl, -, -, -⟩ := h3.1.some_ (by omega)
  obtain ⟨hB, hR⟩ := H1.out.pushH (R := []) (ints_nil w1) (fun g hg => by simp [Value.ownBlock] at hg) h3
  have k1 : w3.cell? ⟨rb, 1, none⟩ = some (.slice hn ws.length hc) := hB.cell 1
  have r1 : w3.frozen? ⟨rb, 1, none⟩ = false := hB.frozen 1
  have HR : Hid (RecR w rb r (TrS.inp ⟨S, ws, ts⟩ c) (w3.setCell ⟨rb, 1, none⟩ (.slice (some ⟨g3, 0, none⟩) (ws.length + 1) cp3))) := Lib.hid ⟨_, _, _, hR⟩
  clear h3 hB hR
  go_wp2
  go_returns
  exact ⟨rfl, HR.out⟩
theorem RecX.formH (h : RecX w wr rb r S hv tv us ws ts E) : ∃ a c, hv = .slice a ws.length c := by
  rcases h.h.form with ⟨e, e0, -⟩ | ⟨g, cap, e, -⟩
  · exact ⟨none, 0, by rw [e, e0]⟩
  · exact ⟨_, cap, e⟩
theorem RecX.formT (h : RecX w wr rb r S hv tv us ws ts E) : ∃ a c, tv = .slice a ts.length c := by
  rcases h.t.form with ⟨e, e0, -⟩ | ⟨g, cap, e, -⟩
  · exact ⟨none, 0, by rw [e, e0]⟩
  · exact ⟨_, cap, e⟩
def StpQ (w : World) (rb r : Nat) (s : TrS) (k : Nat) (x : Stp) (e : Ending) (w' : World) : Prop :=
  ∃ b, e = .returned (.bool b) ∧ Below w.heap.size w w' ∧ (x.1 = true → b = (s.S.seek (normC x.2)).isSome ∧ RecR w rb r ⟨s.S.rem (normC x.2), s.ws, s.ts⟩ w') ∧ (x.1 = false → ∃ R, WhyR s.S x.2 b R ∧ (b = true → RecR w rb r ⟨s.S.add (normC x.2), s.ws ++ [R], s.ts ++ [k]⟩ w'))
set_option maxHeartbeats 4000000 in
set_option maxRecDepth 100000 in
theorem trim_step (h : RecX w wr rb r S hv tv us ws ts (fun _ => False)) (hcl : S.cl.length ≤ 9999) (hwl : ws.length ≤ 9999) (htl : ts.length ≤ 9999) {ua : Option Addr} {cn uc : Nat} {g : Bool} {c : List Int} (hu : Ints w (.slice ua cn uc) c) (hc : Lit30s c) (hl : c.length ≤ 1000000) (k : Nat) :
    Calls Try.prog 60 #[rp rb, .int .i64 (k : Nat), .agg #[.bool g, .slice ua cn uc]] wr (StpQ w rb r ⟨S, ws, ts⟩ k (g, c)) := by
  obtain ⟨bx, hbx⟩ : ∃ bx, bx = wr.heap.size := ⟨_, rfl⟩
  obtain ⟨wB, hwB⟩ : ∃ wB, wB = wr.alloc (.cells #[.bool g, .slice ua cn uc] 52) := ⟨_, rfl⟩
  have hbB : Below wr.heap.size wr wB := by rw [hwB]; exact (Below.refl _ wr).alloc (Nat.le_refl _) _
  have hBlk : Blk wB bx 52 #[.bool g, .slice ua cn uc] := by rw [hwB, hbx]; exact Blk.new _ _ _
  have hB : RecX w wB rb r S hv tv us ws ts (fun g => g = bx) := (h.fresh (E2 := fun g => g = bx) (fun g hg => .inr (by omega))).below hbB
  have huB : Ints wB (.slice ua cn uc) c := hu.below hB.x.b
  have HU0 := Lib.hid hu
  have b0 : wB.cell? ⟨bx, 0, none⟩ = some (.bool g) := hBlk.cell 0
  have b1 : wB.cell? ⟨bx, 1, none⟩ = some (.slice ua cn uc) := hBlk.cell 1
  have r0 : wB.cell? ⟨rb, 0, none⟩ = some (kp r) := hB.b.cell 0
  have HB := Lib.hid hB
  have HBX := Lib.hid hBlk
  have HUB := Lib.hid huB
  have HC := Lib.hid hc
  have HL := Lib.hid hl
  have HCL := Lib.hid hcl
  have HWL := Lib.hid hwl
  have HTL := Lib.hid htl
  have HBXE := Lib.hid hbx
  have HWB := Lib.hid hwB
  clear h hcl hwl htl hu hc hl hbB hBlk hB huB
  cases g with
  | true =>
    have HRM : Hid (∀ W, Below wB.heap.size wB W → Calls Try.prog 15 #[kp r, .slice ua cn uc] W fun e w' => e = .returned (.tuple #[.int .i64 (seekI S (normC c)), .bool (S.seek (normC c)).isSome]) ∧ RecX w w' rb r (S.rem (normC c)) hv tv us ws ts (fun g => g = bx) ∧ Blk w' bx 52 #[.bool true, .slice ua cn uc]) := Lib.hid fun W hW => by
      refine ((HB.out.below hW).rem (fun g hg => by rw [hg]; exact (HBX.out.below hW HBX.out.lt).lt) (by have := HCL.out; omega) (HUB.out.below hW) HC.out HL.out).mono ?_
      rintro e w' ⟨rfl, hx, hch⟩
      exact ⟨rfl, hx, (HBX.out.below hW HBX.out.lt).chg hch (fun e => e.2 (.inr rfl))⟩
    go_enter Try.func60, Try.ntmps60
    go_wp2_with fail
    rw [← hwB, ← hbx]
    clear hwB hbx
    go_wp2
    go_region_held3 (fun w' => w'.cell? ⟨rb, 0, none⟩ = some (kp r) ∧ w'.cell? ⟨bx, 1, none⟩ = some (.slice ua cn uc)) (go_keep) (first
      | (go_at_call 15; refine (HRM.out _ (by first | exact (Below.refl _ _).drew | exact Below.refl _ _)).mono ?_; rintro e w6 ⟨rfl, h6, hB6⟩; have H6 := Lib.hid h6; have k0 : w6.cell? ⟨rb, 0, none⟩ = some (kp r) := h6.b.cell 0; have k1 : w6.cell? ⟨bx, 1, none⟩ = some (.slice ua cn uc) := hB6.cell 1; clear h6 hB6))
    go_wp2
    go_ret
    exact ⟨_, rfl, H6.out.x.b, fun _ => ⟨rfl, _, _, _, H6.out.weak (fun g e => e.elim)⟩, fun e => by cases e⟩
  | false =>
    have HWY : Hid (∀ W, Below wB.heap.size wB W → Calls Try.prog 17 #[kp r, .slice ua cn uc] W fun e w' => ∃ (v : Value) (is : Bool) (R : List Nat), e = .returned (.tuple #[v, .bool is]) ∧ WhyR S c is R ∧ RecX w w' rb r S hv tv us ws ts (fun g => g = bx ∨ v.ownBlock = some g) ∧ Ints w' v (natI R) ∧ (∀ g, v.ownBlock = some g → wB.heap.size ≤ g ∧ g < w'.heap.size) ∧ Blk w' bx 52 #[.bool false, .slice ua cn uc]) := Lib.hid fun W hW => by
      refine ((HB.out.below hW).why (fun g hg => by rw [hg]; exact (HBX.out.below hW HBX.out.lt).lt) (by have := HCL.out; omega) (HUB.out.below hW) HC.out HL.out).mono ?_
      rintro e w' ⟨v, is, R, rfl, hy, hx, hi, ho, hch⟩
      exact ⟨v, is, R, rfl, hy, hx, hi, fun g hg => ⟨Nat.le_trans hW.size (ho g hg).1, (ho g hg).2⟩, (HBX.out.below hW HBX.out.lt).chg hch (fun e => e.2 (.inr rfl))⟩
    go_enter Try.func60, Try.ntmps60
    go_wp2_with fail
    rw [← hwB, ← hbx]
    clear hwB hbx
    go_wp2
    go_region_held3 (fun w' => w'.cell? ⟨rb, 0, none⟩ = some (kp r) ∧ w'.cell? ⟨bx, 1, none⟩ = some (.slice ua cn uc)) (go_keep) (first
      | (go_at_call 17; refine (HWY.out _ (by first | exact (Below.refl _ _).drew | exact Below.refl _ _)).mono ?_; rintro e w6 ⟨v5, is, R, rfl, hy, h6, hi6, ho6, hB6⟩; obtain ⟨va, vc, rfl, -⟩ := id hi6; have H6 := Lib.hid h6; have HY := Lib.hid hy; have HI6 := Lib.hid hi6; have HO6 := Lib.hid ho6; have HB6 := Lib.hid hB6; have k0 : w6.cell? ⟨rb, 0, none⟩ = some (kp r) := h6.b.cell 0; have k1 : w6.cell? ⟨bx, 1, none⟩ = some (.slice ua cn uc) := hB6.cell 1; clear h6 hy hi6 ho6 hB6))
    cases is with
    | false =>
      clear k0 k1
      go_wp2
      go_ret
      exact ⟨_, rfl, H6.out.x.b, fun e => (by cases e), fun _ => ⟨R, HY.out, fun e => (by cases e)⟩⟩
    | true =>
      have HUX : Hid (Ints w6 (.slice ua cn uc) c) := Lib.hid (HU0.out.below H6.out.x.b)
      have HAD : Hid (∀ W, Below w6.heap.size w6 W → Calls Try.prog 14 #[kp r, .slice ua cn uc] W fun e w' => e = .returned (.int .i64 (S.cl.length : Nat)) ∧ RecX w w' rb r (S.add (normC c)) hv tv us ws ts (fun g => g = bx ∨ (Value.slice va (natI R).length vc).ownBlock = some g) ∧ Blk w' bx 52 #[.bool false, .slice ua cn uc] ∧ Ints w' (.slice va (natI R).length vc) (natI R) ∧ w6.heap.size ≤ w'.heap.size) := Lib.hid fun W hW => by
        refine ((H6.out.below hW).add (fun g hg => hg.elim (fun e => by rw [e]; exact (HB6.out.below hW HB6.out.lt).lt) (fun e => Nat.lt_of_lt_of_le (HO6.out g e).2 hW.size)) (by have := HCL.out; omega) (HUX.out.below hW) HC.out HL.out).mono ?_
        rintro e w' ⟨rfl, hx, hch⟩
        exact ⟨rfl, hx, (HB6.out.below hW HB6.out.lt).chg hch (fun e => e.2 (.inr (.inl rfl))), (HI6.out.below hW).chg hch (fun g hg e => e.2 (.inr (.inr hg))), Nat.le_trans hW.size hch.size⟩
      go_wp2
      go_region_held3 (fun w' => w'.cell? ⟨rb, 0, none⟩ = some (kp r) ∧ w'.cell? ⟨bx, 1, none⟩ = some (.slice ua cn uc)) (go_keep) (first
        | (go_at_call 14; refine (HAD.out _ (by first | exact (Below.refl _ _).drew | exact Below.refl _ _)).mono ?_; rintro e w7 ⟨rfl, h7, hB7, hi7, hs7⟩; have H7 := Lib.hid h7; have HI7 := Lib.hid hi7; have HS7 := Lib.hid hs7; have k0 : w7.cell? ⟨rb, 0, none⟩ = some (kp r) := h7.b.cell 0; have k1 : w7.cell? ⟨bx, 1, none⟩ = some (.slice ua cn uc) := hB7.cell 1; clear h7 hB7 hi7 hs7))
      clear k0 k1
      have k1 : w7.cell? ⟨rb, 1, none⟩ = some hv := H7.out.b.cell 1
      obtain ⟨hn, hc, hve⟩ := H7.out.formH
      subst hve
      go_wp2_with (at_builtin; refine wpList_appS rfl _ _ _ rfl 28 (.slice none 0 0) 1 24 Try.underlying26 infoL rfl (by decide) (.slice hn ws.length hc) ws.length us rfl (H7.out.h.alloc _) (some ⟨w7.heap.size, 0, none⟩) 1 1 [.slice va (natI R).length vc] rfl (Src.one (heap_new1 _ _)) (fun u9 hu9 => by rw [List.mem_singleton.1 hu9]; rfl) (by have := HWL.out; unfold maxLen; omega) (by have := HWL.out; omega) ?_)
      intro v3 w3 h3
      obtain ⟨g3, cp3, rfl, -, -, -⟩ := h3.1.some_ (by omega)
      obtain ⟨hB8, hR8⟩ := H7.out.pushH (R := R) HI7.out (fun g hg => by
        have ho := HO6.out g hg
        refine ⟨fun e => ?_, Nat.lt_of_lt_of_le ho.2 HS7.out, .inr hg⟩
        have hlt := HB.out.lt g (e.elim .inl (fun e => .inr (e.elim .inl (fun e => .inr (.inl e)))))
        omega) h3
      have k1 : w3.cell? ⟨rb, 1, none⟩ = some (.slice hn ws.length hc) := hB8.cell 1
      have r1 : w3.frozen? ⟨rb, 1, none⟩ = false := hB8.frozen 1
      obtain ⟨w8, hw8⟩ : ∃ w8, w8 = w3.setCell ⟨rb, 1, none⟩ (.slice (some ⟨g3, 0, none⟩) (ws.length + 1) cp3) := ⟨_, rfl⟩
      rw [← hw8] at hR8
      have H8 := Lib.hid hR8
      have k2 : w3.cell? ⟨rb, 2, none⟩ = some tv := hB8.cell 2
      obtain ⟨tn, tc, hte⟩ := hR8.formT
      clear h3 hB8 hR8
      subst hte
      have HN8 : Hid (∀ o, (w8.alloc o).heap[w3.heap.size]? = some o) := Lib.hid fun o => by
        have e := heap_new1 w8 o
        have e2 : w8.heap.size = w3.heap.size := by rw [hw8]; simp
        rw [e2] at e; exact e
      have HW8 := Lib.hid hw8
      clear hw8
      go_wp2_with (at_builtin; rw [← HW8.out]; refine wpList_appS rfl _ _ _ rfl 3 (.int .i64 0) 1 8 Try.underlying28 infoI rfl (by decide) (.slice tn ts.length tc) ts.length (ts.map fun i : Nat => iv (i : Nat)) rfl (H8.out.t.alloc _) (some ⟨w3.heap.size, 0, none⟩) 1 1 [.int .i64 (k : Nat)] rfl (Src.one (HN8.out _)) (fun u9 hu9 => by rw [List.mem_singleton.1 hu9]; rfl) (by have := HTL.out; unfold maxLen; omega) (by have := HTL.out; omega) ?_)
      intro v9 w9 h9
      obtain ⟨g9, cp9, rfl, -, -, -⟩ := h9.1.some_ (by omega)
      obtain ⟨hB9, hR9⟩ := H8.out.pushT h9
      have k3 : w9.cell? ⟨rb, 2, none⟩ = some (.slice tn ts.length tc) := hB9.cell 2
      have r3 : w9.frozen? ⟨rb, 2, none⟩ = false := hB9.frozen 2
      have HR : Hid (RecR w rb r ⟨S.add (normC c), ws ++ [R], ts ++ [k]⟩ (w9.setCell ⟨rb, 2, none⟩ (.slice (some ⟨g9, 0, none⟩) (ts.length + 1) cp9))) := Lib.hid ⟨_, _, _, hR9⟩
      have HBF : Hid (Below w.heap.size w (w9.setCell ⟨rb, 2, none⟩ (.slice (some ⟨g9, 0, none⟩) (ts.length + 1) cp9))) := Lib.hid hR9.x.b
      clear h9 hB9 hR9
      go_wp2
      go_ret
      exact ⟨_, rfl, HBF.out, fun e => (by cases e), fun _ => ⟨R, HY.out, fun _ => HR.out⟩⟩
end
end Go.Proofs.Ytknpfopepedmmaa
