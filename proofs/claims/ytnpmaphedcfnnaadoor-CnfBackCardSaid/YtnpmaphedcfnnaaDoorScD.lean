/-
  Package cnf: the reader's want, upto, lit.
-/
import Derived.Test.YtnpmaphedcfnnaaDoorScA
import Derived.Test.YtnpmaphedcfnnaaDoorErrF
import Derived.Test.YtnpmaphedcfnnaaDoorOwnB
import Derived.Test.YtnpmaphedcfnnaaDoorCnfM
namespace Go.Proofs.YtnpmaphedcfnnaaDoor
open Go.ChangeShapes Go.WideShapes Go.ChangeAt Go.RowKit
set_option linter.unusedVariables false
abbrev rdr (r : Nat) : Value := .agg #[.pointer (some ⟨r, 0, none⟩)]
/-- An error of kind f at p (told so), in any dress. -/
def Bad (w : World) (f p : Nat) (v : Value) : Prop := ∃ ch, Chain w (f : Int) ch v ∧ ch ≠ [] ∧ ∀ d, lastAt d ch = (p : Int)
theorem Bad.below {w w' : World} {f p : Nat} {v : Value} (h : Bad w f p v) (hb : Below w.heap.size w w') : Bad w' f p v := by
  obtain ⟨ch, h1, h2⟩ := h
  exact ⟨ch, h1.below hb, h2⟩
theorem Bad.iface {w : World} {f p : Nat} {v : Value} (h : Bad w f p v) : ∃ x, v = .iface 120 x := by
  obtain ⟨ch, h1, h2, -⟩ := h
  match ch, h1, h2 with
  | (b, a) :: r, h1, _ => exact ⟨_, h1.1⟩
theorem lastAt_map : ∀ (ch : List (Nat × Int)) (l : List Int), ch.map (·.2) = l → ∀ d, lastAt d ch = l.getLastD d
  | [], l, h, d => by subst h; rfl
  | (b, a) :: r, l, h, d => by
    subst h
    have := lastAt_map r _ rfl a
    show lastAt a r = _
    rw [this]
    cases hr : List.map (·.2) r with
    | nil => rw [List.map_cons, hr]; rfl
    | cons x y => rw [List.map_cons, hr]; rfl
/-- fault.New of what is wrong. -/
theorem New_B (f p : Nat) (hf : 0 < f) (w : World) : Calls Tryd.prog 74 #[.int .i64 (f : Int), .int .i64 (p : Int)] w fun e w' => ∃ v, e = .returned v ∧ Bad w' f p v ∧ Below w.heap.size w w' := by
  refine (New_C (f : Int) (p : Int) (by rw [beq_eq_false_iff_ne]; omega) w).mono ?_
  rintro e w' ⟨l, v, rfl, h1, h2, h3⟩
  exact ⟨v, rfl, ⟨l, h1, fun e => by rw [e] at h2; simp at h2, fun d => by rw [lastAt_map l _ h2 d]; rfl⟩, h3⟩
theorem Wrap_B {w : World} {v : Value} {f p : Nat} (hL : Laid w) (h : Bad w f p v) (a : Int) : Calls Tryd.prog 81 #[v, .int .i64 a] w fun e w' => ∃ u, e = .returned u ∧ Bad w' f p u ∧ Below w.heap.size w w' := by
  obtain ⟨ch, h1, h2, h3⟩ := h
  refine (Wrap_C hL h1 a).mono ?_
  rintro e w' ⟨l, u, rfl, g1, g2, g3⟩
  refine ⟨u, rfl, ⟨l, g1, fun e => by rw [e] at g2; simp at g2, fun d => ?_⟩, g3⟩
  rw [lastAt_map l _ g2 d]
  obtain ⟨⟨b, x⟩, y, rfl⟩ : ∃ x y, ch = x :: y := by
    cases ch with
    | nil => exact absurd rfl h2
    | cons x y => exact ⟨x, y, rfl⟩
  have := h3 a
  rw [lastAt_map _ _ rfl a] at this
  rw [← this]
  rfl
/-- What a step of a reader leaves: nil and the reader behind it, or an error. -/
def Step (w : World) (r : Nat) (l : List UInt8) (o : Except Wrong Nat) (e : Ending) (w' : World) : Prop :=
  Chg (fun i => i = r) w w' ∧ match o with
  | .ok m => e = .returned .nilIface ∧ ScanAt w' r l m
  | .error (f, p) => ∃ v, e = .returned v ∧ Bad w' f p v
def wantE (t l : List UInt8) (k : Nat) : Except Wrong Nat := match wantF t l k with
  | none => .ok (k + t.length)
  | some x => .error x
theorem below_chg {S : Nat → Prop} {a b c : World} (h : Chg S a b) (g : Below b.heap.size b c) : Chg S a c := h.trans (Chg.of_below (S := S) g) (fun i hi => .inl hi)
set_option maxHeartbeats 1000000 in
theorem want_ {w : World} {r : Nat} {l : List UInt8} {k : Nat} (h : ScanAt w r l k) (s : ByteArray) (hs : s.size ≤ 1000) : Calls Tryd.prog 71 #[rdr r, .string s] w (Step w r l (wantE s.data.toList l k)) := by
  have hlt : r < w.heap.size := h.choose_spec.1.lt
  have hsl : s.data.toList.length = s.size := by rw [Array.length_toList]; rfl
  have hb0 := below_new1 w (.cells #[.pointer (some ⟨r, 0, none⟩)] 87)
  have HW := Lib.hid (Want_ (h.below hb0) s hs _ rfl)
  have HB0 := Lib.hid (Chg.of_below (S := fun i => i = r) hb0)
  have HSL := Lib.hid hsl
  unfold wantE
  cases ho : wantF s.data.toList l k with
  | none =>
    rw [ho] at HW
    have HWW := HW
    clear HW ho h hb0 hsl
    go_enter Tryd.func71, Tryd.ntmps71
    go_wp2_with fail
    refine HWW.out.mono ?_
    rintro e w1 ⟨rfl, h1, h2⟩
    have HN := Lib.hid (fun a => New_0 a w1)
    have H1 := Lib.hid h1
    have H2 := Lib.hid (HB0.out.trans h2 (fun i hi => .inl hi))
    clear h1 h2
    go_wp2_with fail
    refine (HN.out _).mono ?_
    rintro e w2 ⟨rfl, rfl⟩
    go_wp2
    go_ret
    exact ⟨H2.out, rfl, by rw [HSL.out]; exact H1.out⟩
  | some x =>
    obtain ⟨f, p⟩ := x
    have hf := wantG_err ho
    rw [ho] at HW
    have HWW := HW
    clear HW ho h hb0 hsl
    go_enter Tryd.func71, Tryd.ntmps71
    go_wp2_with fail
    refine HWW.out.mono ?_
    rintro e w1 ⟨rfl, h1, h2⟩
    have HN := Lib.hid (New_B f p hf.1 w1)
    have H2 := Lib.hid (HB0.out.trans h2 (fun i hi => .inl hi))
    clear h1 h2
    go_wp2_with fail
    refine HN.out.mono ?_
    rintro e w2 ⟨v, rfl, h3, h4⟩
    have H3 := Lib.hid h3
    have H4 := Lib.hid h4
    obtain ⟨x, rfl⟩ := h3.iface
    clear h3 h4
    go_wp2
    go_ret
    exact ⟨below_chg H2.out H4.out, _, rfl, H3.out⟩
/-- The same of a step that reads a number. -/
def StepN {α : Type} (val : α → Int) (w : World) (r : Nat) (l : List UInt8) (o : Except Wrong (α × Nat)) (e : Ending) (w' : World) : Prop :=
  Chg (fun i => i = r) w w' ∧ match o with
  | .ok (n, m) => e = .returned (.tuple #[.int .i64 (val n), .nilIface]) ∧ ScanAt w' r l m
  | .error (f, p) => ∃ n v, e = .returned (.tuple #[.int .i64 n, v]) ∧ Bad w' f p v
abbrev ofN (n : Nat) : Int := (n : Int)
set_option maxHeartbeats 1000000 in
theorem upto_ {w : World} {r : Nat} {l : List UInt8} {k : Nat} (h : ScanAt w r l k) : Calls Tryd.prog 70 #[rdr r] w (StepN ofN w r l (uptoF l k)) := by
  have hb0 := below_new1 w (.cells #[.pointer (some ⟨r, 0, none⟩)] 87)
  have hs := h.below hb0
  have HA := Lib.hid (At_ hs)
  have HW := Lib.hid (Number_ hs 1099511627776 (by decide) _ rfl)
  have HB0 := Lib.hid (Chg.of_below (S := fun i => i = r) hb0)
  unfold uptoF
  cases ho : numF 1099511627776 l k with
  | error f =>
    have hf := numF_err ho
    rw [ho] at HW
    have HWW := HW
    clear HW ho h hb0 hs
    go_enter Tryd.func70, Tryd.ntmps70
    go_wp2_with fail
    refine HA.out.mono ?_
    rintro e w1 ⟨rfl, rfl⟩
    go_wp2_with fail
    refine HWW.out.mono ?_
    rintro e w1 ⟨rfl, h1, h2⟩
    have HN := Lib.hid (New_B f k hf.1 w1)
    have H2 := Lib.hid (HB0.out.trans h2 (fun i hi => .inl hi))
    clear h1 h2
    go_wp2_with fail
    refine HN.out.mono ?_
    rintro e w2 ⟨v, rfl, h3, h4⟩
    have H3 := Lib.hid h3
    have H4 := Lib.hid h4
    obtain ⟨x, rfl⟩ := h3.iface
    clear h3 h4
    go_wp2
    go_ret2
    exact ⟨below_chg H2.out H4.out, _, _, rfl, H3.out⟩
  | ok q =>
    obtain ⟨n, m⟩ := q
    rw [ho] at HW
    have HWW := HW
    clear HW ho h hb0 hs
    by_cases hn : 65536 < n
    · simp only [if_pos hn]
      have hni : (65536 : Int) < (n : Int) := by omega
      go_enter Tryd.func70, Tryd.ntmps70
      go_wp2_with fail
      refine HA.out.mono ?_
      rintro e w1 ⟨rfl, rfl⟩
      go_wp2_with fail
      refine HWW.out.mono ?_
      rintro e w1 ⟨rfl, h1, h2⟩
      have HN := Lib.hid (New_B 10 k (by decide) w1)
      have H2 := Lib.hid (HB0.out.trans h2 (fun i hi => .inl hi))
      clear h1 h2
      go_wp2_with fail
      refine HN.out.mono ?_
      rintro e w2 ⟨v, rfl, h3, h4⟩
      have H3 := Lib.hid h3
      have H4 := Lib.hid h4
      obtain ⟨x, rfl⟩ := h3.iface
      clear h3 h4
      go_wp2
      go_ret2
      exact ⟨below_chg H2.out H4.out, _, _, rfl, H3.out⟩
    · simp only [if_neg hn]
      have hni : ¬ (65536 : Int) < (n : Int) := by omega
      go_enter Tryd.func70, Tryd.ntmps70
      go_wp2_with fail
      refine HA.out.mono ?_
      rintro e w1 ⟨rfl, rfl⟩
      go_wp2_with fail
      refine HWW.out.mono ?_
      rintro e w1 ⟨rfl, h1, h2⟩
      have HN := Lib.hid (fun a => New_0 a w1)
      have H1 := Lib.hid h1
      have H2 := Lib.hid (HB0.out.trans h2 (fun i hi => .inl hi))
      clear h1 h2
      go_wp2_with fail
      refine (HN.out _).mono ?_
      rintro e w2 ⟨rfl, rfl⟩
      go_wp2
      go_ret2
      exact ⟨H2.out, rfl, H1.out⟩
end Go.Proofs.YtnpmaphedcfnnaaDoor
/-
  Package cnf: the reader's lit.
-/
namespace Go.Proofs.YtnpmaphedcfnnaaDoor
open Go.ChangeShapes Go.WideShapes Go.ChangeAt Go.RowKit
set_option linter.unusedVariables false
theorem stepN_err {α : Type} {val : α → Int} {w w1 w2 : World} {r : Nat} {l : List UInt8} {o : Except Wrong (α × Nat)} {f p : Nat} {n : Int} {v x : Value} (ho : o = .error (f, p)) (hx : x = .tuple #[.int .i64 n, v]) (h1 : Chg (fun i => i = r) w w1) (h2 : Below w1.heap.size w1 w2) (hb : Bad w2 f p v) : StepN val w r l o (.returned x) w2 := by
  subst ho hx
  exact ⟨below_chg h1 h2, _, _, rfl, hb⟩
theorem stepN_ok {α : Type} {val : α → Int} {w w1 : World} {r : Nat} {l : List UInt8} {o : Except Wrong (α × Nat)} {n : α} {m : Nat} {x : Value} (ho : o = .ok (n, m)) (hx : x = .tuple #[.int .i64 (val n), .nilIface]) (h1 : Chg (fun i => i = r) w w1) (hs : ScanAt w1 r l m) : StepN val w r l o (.returned x) w1 := by
  subst ho hx
  exact ⟨h1, rfl, hs⟩
theorem box_cell {w wx : World} {r : Nat} {t : TypeId} {v : Value} (hr : r < w.heap.size) (hc : Chg (fun i => i = r) (w.alloc (.cells #[v] t)) wx) : wx.cell? ⟨w.heap.size, 0, none⟩ = some v := by
  have h := (Blk.new w t #[v]).chg hc (fun e => by omega)
  exact h.cell 0
abbrev ofI (n : Int) : Int := n
set_option maxHeartbeats 2000000 in
theorem lit_ {w : World} {r : Nat} {l : List UInt8} {k : Nat} (h : ScanAt w r l k) (vars : Nat) (hv : vars ≤ 65536) (o : Except Wrong (Int × Nat)) (ho : litF vars l k = o) : Calls Tryd.prog 80 #[rdr r, .int .i64 (vars : Int)] w (StepN ofI w r l o) := by
  have hb0 := below_new1 w (.cells #[.pointer (some ⟨r, 0, none⟩)] 87)
  have hs := h.below hb0
  have HP := Lib.hid (Peek_ hs)
  have HB0 := Lib.hid (Chg.of_below (S := fun i => i = r) hb0)
  have HSS := Lib.hid hs
  have hlr : r < w.heap.size := h.choose_spec.1.lt
  have h255 : (l.getD k 0).toNat < 256 := (l.getD k 0).toNat_lt
  have h45 : (l.getD k 0).toNat = 45 ↔ l.getD k 0 = 45 := ⟨fun h => UInt8.toNat.inj h, fun h => by rw [h]; rfl⟩
  unfold litF at ho
  by_cases hm : k < l.length ∧ l.getD k 0 = 45
  · rw [if_pos hm] at ho
    rw [if_pos hm.1] at HP
    rw [h45.2 hm.2] at HP
    have HPP := HP
    have HM := Lib.hid hm.1
    have HO := Lib.hid ho
    clear HP ho hs h hb0 h255 h45 hm
    go_enter Tryd.func80, Tryd.ntmps80
    go_wp2_with fail
    refine HPP.out.mono ?_
    rintro e w1 ⟨rfl, hq⟩
    have HY := Lib.hid (Byte_yes (HSS.out.qt hq) HM.out)
    have HC1 := Lib.hid (hq.chg (Chg.refl (fun i => i = r) _))
    have bx1 := box_cell hlr HC1.out
    clear hq
    go_wp2_with fail
    refine HY.out.mono ?_
    rintro e w2 ⟨rfl, hs2, hc2⟩
    have HA := Lib.hid (At_ hs2)
    have HN := Lib.hid (Number_ hs2 1099511627776 (by decide) _ rfl)
    have HC2 := Lib.hid (HC1.out.trans hc2 (fun i hi => .inl hi))
    have bx2 := box_cell hlr HC2.out
    clear hs2 hc2
    go_wp2_with fail
    refine HA.out.mono ?_
    rintro e w3 ⟨rfl, rfl⟩
    cases hn : numF 1099511627776 l (k + 1) with
    | error f =>
      have hf := numF_err hn
      have ho := HO.out
      rw [hn] at HN ho
      have HNN := HN
      have HOO := Lib.hid ho.symm
      have hfn : (((f : Int)) != 0) = true := by simp; omega
      clear hn HN ho
      go_wp2_with fail
      refine HNN.out.mono ?_
      rintro e w4 ⟨rfl, -, hc4⟩
      have HC4 := Lib.hid (HC2.out.trans hc4 (fun i hi => .inl hi))
      have HE := Lib.hid (New_B f (k + 1) hf.1 w4)
      clear hc4 hf
      go_wp2_with fail
      refine HE.out.mono ?_
      rintro e w5 ⟨v, rfl, h3, h4⟩
      have H3 := Lib.hid h3
      have H4 := Lib.hid h4
      obtain ⟨x, rfl⟩ := h3.iface
      clear h3 h4
      go_wp2
      go_ret2
      exact stepN_err HOO.out rfl (HB0.out.trans HC4.out (fun i hi => .inl hi)) H4.out H3.out
    | ok q =>
      obtain ⟨n, m⟩ := q
      have hnm := numF_ok hn
      have ho := HO.out
      rw [hn] at HN ho
      have HNN := HN
      have hn1 : (n : Int) ≤ 1099511627776 := by omega
      simp only at ho
      clear hn HN hnm
      by_cases hn0 : n = 0
      · subst hn0
        rw [if_pos rfl] at ho
        have HOO := Lib.hid ho.symm
        clear ho
        go_wp2_with fail
        refine HNN.out.mono ?_
        rintro e w4 ⟨rfl, -, hc4⟩
        have HC4 := Lib.hid (HC2.out.trans hc4 (fun i hi => .inl hi))
        have HE := Lib.hid (New_B 2 (k + 1) (by decide) w4)
        clear hc4
        go_wp2_with fail
        refine HE.out.mono ?_
        rintro e w5 ⟨v, rfl, h3, h4⟩
        have H3 := Lib.hid h3
        have H4 := Lib.hid h4
        obtain ⟨x, rfl⟩ := h3.iface
        clear h3 h4
        go_wp2
        go_ret2
        exact stepN_err HOO.out rfl (HB0.out.trans HC4.out (fun i hi => .inl hi)) H4.out H3.out
      · rw [if_neg hn0] at ho
        have hnb : ((n : Int) == 0) = false := by rw [beq_eq_false_iff_ne]; omega
        by_cases hnv : vars < n
        · rw [if_pos hnv] at ho
          have hvi : (vars : Int) < (n : Int) := by omega
          have HOO := Lib.hid ho.symm
          clear ho hn0
          go_wp2_with fail
          refine HNN.out.mono ?_
          rintro e w4 ⟨rfl, -, hc4⟩
          have HC4 := Lib.hid (HC2.out.trans hc4 (fun i hi => .inl hi))
          have HE := Lib.hid (New_B 5 (k + 1) (by decide) w4)
          clear hc4
          go_wp2_with fail
          refine HE.out.mono ?_
          rintro e w5 ⟨v, rfl, h3, h4⟩
          have H3 := Lib.hid h3
          have H4 := Lib.hid h4
          obtain ⟨x, rfl⟩ := h3.iface
          clear h3 h4
          go_wp2
          go_ret2
          exact stepN_err HOO.out rfl (HB0.out.trans HC4.out (fun i hi => .inl hi)) H4.out H3.out
        · rw [if_neg hnv] at ho
          have hvi : ¬ (vars : Int) < (n : Int) := by omega
          have HOO := Lib.hid ho.symm
          clear ho hn0
          go_wp2_with fail
          refine HNN.out.mono ?_
          rintro e w4 ⟨rfl, hs4, hc4⟩
          have HC4 := Lib.hid (HC2.out.trans hc4 (fun i hi => .inl hi))
          have HS4 := Lib.hid hs4
          clear hc4 hs4
          go_wp2
          go_ret2
          exact stepN_ok HOO.out rfl (HB0.out.trans HC4.out (fun i hi => .inl hi)) HS4.out
  · rw [if_neg hm] at ho
    have hpk : ((if k < l.length then ((l.getD k 0).toNat : Int) else -1) == 45) = false := by
      rw [beq_eq_false_iff_ne]
      intro e
      split at e
      · rename_i hk
        exact hm ⟨hk, h45.1 (by omega)⟩
      · omega
    generalize (if k < l.length then ((l.getD k 0).toNat : Int) else -1) = pk at *
    have HPP := HP
    have HO := Lib.hid ho
    clear HP ho hs h hb0 h255 h45 hm
    go_enter Tryd.func80, Tryd.ntmps80
    go_wp2_with fail
    refine HPP.out.mono ?_
    rintro e w2 ⟨rfl, hq⟩
    have hs2 := HSS.out.qt hq
    have HA := Lib.hid (At_ hs2)
    have HN := Lib.hid (Number_ hs2 1099511627776 (by decide) _ rfl)
    have HC2 := Lib.hid (hq.chg (Chg.refl (fun i => i = r) _))
    have bx2 := box_cell hlr HC2.out
    clear hs2 hq
    go_wp2_with fail
    refine HA.out.mono ?_
    rintro e w3 ⟨rfl, rfl⟩
    cases hn : numF 1099511627776 l k with
    | error f =>
      have hf := numF_err hn
      have ho := HO.out
      rw [hn] at HN ho
      have HNN := HN
      have HOO := Lib.hid ho.symm
      have hfn : (((f : Int)) != 0) = true := by simp; omega
      clear hn HN ho
      go_wp2_with fail
      refine HNN.out.mono ?_
      rintro e w4 ⟨rfl, -, hc4⟩
      have HC4 := Lib.hid (HC2.out.trans hc4 (fun i hi => .inl hi))
      have HE := Lib.hid (New_B f k hf.1 w4)
      clear hc4 hf
      go_wp2_with fail
      refine HE.out.mono ?_
      rintro e w5 ⟨v, rfl, h3, h4⟩
      have H3 := Lib.hid h3
      have H4 := Lib.hid h4
      obtain ⟨x, rfl⟩ := h3.iface
      clear h3 h4
      go_wp2
      go_ret2
      exact stepN_err HOO.out rfl (HB0.out.trans HC4.out (fun i hi => .inl hi)) H4.out H3.out
    | ok q =>
      obtain ⟨n, m⟩ := q
      have hnm := numF_ok hn
      have ho := HO.out
      rw [hn] at HN ho
      have HNN := HN
      have hn1 : (n : Int) ≤ 1099511627776 := by omega
      simp only at ho
      clear hn HN hnm
      by_cases hnv : vars < n
      · rw [if_pos hnv] at ho
        have hvi : (vars : Int) < (n : Int) := by omega
        have HOO := Lib.hid ho.symm
        clear ho
        go_wp2_with fail
        refine HNN.out.mono ?_
        rintro e w4 ⟨rfl, -, hc4⟩
        have HC4 := Lib.hid (HC2.out.trans hc4 (fun i hi => .inl hi))
        have HE := Lib.hid (New_B 5 k (by decide) w4)
        clear hc4
        go_wp2_with fail
        refine HE.out.mono ?_
        rintro e w5 ⟨v, rfl, h3, h4⟩
        have H3 := Lib.hid h3
        have H4 := Lib.hid h4
        obtain ⟨x, rfl⟩ := h3.iface
        clear h3 h4
        go_wp2
        go_ret2
        exact stepN_err HOO.out rfl (HB0.out.trans HC4.out (fun i hi => .inl hi)) H4.out H3.out
      · rw [if_neg hnv] at ho
        have hvi : ¬ (vars : Int) < (n : Int) := by omega
        have HOO := Lib.hid ho.symm
        clear ho
        go_wp2_with fail
        refine HNN.out.mono ?_
        rintro e w4 ⟨rfl, hs4, hc4⟩
        have HC4 := Lib.hid (HC2.out.trans hc4 (fun i hi => .inl hi))
        have HS4 := Lib.hid hs4
        clear hc4 hs4
        go_wp2
        go_ret2
        exact stepN_ok HOO.out rfl (HB0.out.trans HC4.out (fun i hi => .inl hi)) HS4.out
end Go.Proofs.YtnpmaphedcfnnaaDoor
/-
  Package cnf: the reader's clause.
-/
namespace Go.Proofs.YtnpmaphedcfnnaaDoor
open Go.ChangeShapes Go.WideShapes Go.ChangeAt Go.RowKit
set_option linter.unusedVariables false
def StepC (w : World) (r : Nat) (l : List UInt8) (o : Except Wrong (List Int × Nat)) (e : Ending) (w' : World) : Prop :=
  Chg (fun i => i = r) w w' ∧ match o with
  | .ok (c, m) => ∃ v, e = .returned (.tuple #[v, .nilIface]) ∧ Ints w' v c ∧ (∀ g, v.ownBlock = some g → w.heap.size ≤ g) ∧ ScanAt w' r l m
  | .error (f, p) => ∃ u v, e = .returned (.tuple #[u, v]) ∧ Bad w' f p v
theorem stepC_err {w w1 w2 : World} {r : Nat} {l : List UInt8} {o : Except Wrong (List Int × Nat)} {f p : Nat} {u v x : Value} (ho : o = .error (f, p)) (hx : x = .tuple #[u, v]) (h1 : Chg (fun i => i = r) w w1) (h2 : Below w1.heap.size w1 w2) (hb : Bad w2 f p v) : StepC w r l o (.returned x) w2 := by
  subst ho hx
  exact ⟨below_chg h1 h2, _, _, rfl, hb⟩
theorem cellNew1 (w : World) (u : Value) (e : TypeId) (k : Nat) (hk : k = w.heap.size) : ∀ (j : Nat) (x : Value), [u][j]? = some x → (w.alloc (.cells #[u] e)).cell? ⟨k, 0 + j, none⟩ = some x := by
  intro j x hx
  subst hk
  rw [(Blk.new w e #[u]).cell]
  match j, hx with
  | 0, hx => simpa using hx
theorem oneCell1b {u : Value} (h : u.oneCell' = true) : ∀ x ∈ [u], x.oneCell' = true := fun x hx => by simp at hx; subst hx; exact h
/-- The clause so far: its row is younger than B. -/
def CRow (B : Nat) (wr : World) (out : Value) (cs : List Int) : Prop := Row wr 3 1 out cs.length (cs.map iv) ∧ ∀ g, out.ownBlock = some g → B ≤ g
theorem CRow.chg {B : Nat} {wr wx : World} {out : Value} {cs : List Int} {r : Nat} (h : CRow B wr out cs) (hc : Chg (fun i => i = r) wr wx) (hr : r < B) : CRow B wx out cs :=
  ⟨h.1.chg hc (fun g hg e => by have := h.2 g hg; omega), h.2⟩
theorem CRow.below {B : Nat} {wr wx : World} {out : Value} {cs : List Int} (h : CRow B wr out cs) (hb : Below wr.heap.size wr wx) : CRow B wx out cs :=
  ⟨h.1.chg (S := fun _ => False) (Chg.of_below hb) (fun _ _ h => h), h.2⟩
theorem CRow.form {B : Nat} {wr : World} {out : Value} {cs : List Int} (h : CRow B wr out cs) : ∃ A cap, out = .slice A cs.length cap := by
  rcases h.1.form with ⟨rfl, h0, -⟩ | ⟨g, cap, rfl, h1, h2, -, -⟩
  · exact ⟨none, 0, by rw [h0]⟩
  · exact ⟨_, _, rfl⟩
theorem CRow.app {B : Nat} {wr w3 : World} {out v' : Value} {cs : List Int} {x : Int} (h : CRow B wr out cs) (hB : B ≤ wr.heap.size) (hp : AppPost (wr.alloc (.cells #[.int .i64 x] 3)) 3 1 out (cs.length + 1) (cs.map iv ++ [.int .i64 x]) v' w3) :
    CRow B w3 v' (cs ++ [x]) ∧ Chg (fun g => B ≤ g) wr w3 := by
  obtain ⟨p1, p2, p3⟩ := hp
  refine ⟨⟨by rw [List.length_append, List.map_append]; exact p1, fun g hg => ?_⟩, ?_⟩
  · rcases p3 with e | e
    · rw [e] at hg; exact h.2 g hg
    · rw [e] at hg; simp at hg; omega
  · have h0 : Chg (fun g => B ≤ g) wr (wr.alloc (.cells #[.int .i64 x] 3)) := (Chg.refl _ wr).alloc _
    exact h0.trans p2 (fun i hi => .inl (h.2 i hi))
theorem stepC_ok {w w1 : World} {r : Nat} {l : List UInt8} {o : Except Wrong (List Int × Nat)} {c : List Int} {m : Nat} {v x : Value} (ho : o = .ok (c, m)) (hx : x = .tuple #[v, .nilIface]) (h1 : Chg (fun i => i = r) w w1) (hr : CRow (w.heap.size + 1) w1 v c) (hs : ScanAt w1 r l m) : StepC w r l o (.returned x) w1 := by
  subst ho hx
  exact ⟨h1, _, rfl, hr.1.ints, fun g hg => by have := hr.2 g hg; omega, hs⟩
theorem chg_young {B r : Nat} {a b c : World} (h : Chg (fun i => i = r) a b) (g : Chg (fun i => B ≤ i) b c) (hB : a.heap.size ≤ B) : Chg (fun i => i = r) a c :=
  h.trans g (fun i hi => .inr (Nat.le_trans hB hi))
theorem box_young {w wx wy : World} {r : Nat} {t : TypeId} {v : Value} (hr : r < w.heap.size) (hc : Chg (fun i => i = r) (w.alloc (.cells #[v] t)) wx) (hy : Chg (fun i => w.heap.size + 1 ≤ i) wx wy) : wy.cell? ⟨w.heap.size, 0, none⟩ = some v := by
  have h := ((Blk.new w t #[v]).chg hc (fun e => by omega)).chg hy (fun e => by omega)
  exact h.cell 0
theorem Laid.chg_r {w w' : World} {r : Nat} (h : Laid w) (hr : 0 < r) (hc : Chg (fun i => i = r) w w') : Laid w' := h.chg hc (fun e => by omega)
theorem clauseG_lit {vars : Nat} {l : List UInt8} {f k : Nat} {c : List Int} : clauseG vars l (f + 1) k c = match litF vars l k with
    | .error x => .error x
    | .ok (v, e) => if v = 0 then (match wantE [10] l e with | .error x => .error x | .ok m => .ok (c, m)) else (match wantE [32] l e with | .error x => .error x | .ok m => clauseG vars l f m (c ++ [v])) := by
  rw [clauseG]
  cases litF vars l k with
  | error x => rfl
  | ok q =>
    obtain ⟨v, e⟩ := q
    simp only
    unfold wantE
    split
    · cases wantF [10] l e <;> rfl
    · cases wantF [32] l e <;> rfl
theorem wantE_ok {t l : List UInt8} {k m : Nat} (h : wantE t l k = .ok m) : m = k + t.length := by
  unfold wantE at h
  cases hw : wantF t l k with
  | none => rw [hw] at h; simp at h; exact h.symm
  | some x => rw [hw] at h; simp at h
def rdrK (w : World) (r : Nat) : Nat := (intOf ((w.cell? ⟨r, 1, none⟩).getD (.int .i64 0))).toNat
theorem ScanAt.rdrK {w : World} {r : Nat} {l : List UInt8} {k : Nat} (h : ScanAt w r l k) : rdrK w r = k := by
  obtain ⟨v, hb, -⟩ := h
  unfold Go.Proofs.YtnpmaphedcfnnaaDoor.rdrK
  rw [hb.cell 1]
  simp [intOf]
set_option maxHeartbeats 4000000 in
theorem clause_ {w : World} {r : Nat} {l : List UInt8} {k : Nat} (hL : Laid w) (hr0 : 0 < r) (h : ScanAt w r l k) (vars : Nat) (hv : vars ≤ 65536) (o : Except Wrong (List Int × Nat)) (ho : clauseF vars l k = o) : Calls Tryd.prog 72 #[rdr r, .int .i64 (vars : Int)] w (StepC w r l o) := by
  have hb0 := below_new1 w (.cells #[.pointer (some ⟨r, 0, none⟩)] 87)
  have hs := h.below hb0
  have HA := Lib.hid (At_ hs)
  have HB0 := Lib.hid (Chg.of_below (S := fun i => i = r) hb0)
  have HSS := Lib.hid hs
  have hlr : r < w.heap.size := h.choose_spec.1.lt
  have hkl : k ≤ l.length ∧ l.length ≤ 100000 := ⟨h.choose_spec.2.2.1, h.choose_spec.2.2.2.1⟩
  have HL0 := Lib.hid (hL.below hb0)
  unfold clauseF at ho
  have HO := Lib.hid ho
  clear ho hs h hb0 hL
  go_enter Tryd.func72, Tryd.ntmps72
  go_wp2_with fail
  refine HA.out.mono ?_
  rintro e w1 ⟨rfl, rfl⟩
  go_wp2
  go_loopw [4] (fun out wr => ∃ f kk cs, ScanAt wr r l kk ∧ CRow (w.heap.size + 1) wr out cs ∧ Chg (fun i => i = r) (w.alloc (.cells #[.pointer (some ⟨r, 0, none⟩)] 87)) wr ∧ Hid (clauseG vars l f kk cs = o) ∧ l.length + 1 ≤ f + kk ∧ cs.length ≤ kk) (fun _ wr => l.length - rdrK wr r)
  case atStart => exact ⟨l.length + 1 - k, k, [], HSS.out, ⟨World.ownsRow_nil _ _ _ _, fun g hg => by simp [Value.ownBlock] at hg⟩, Chg.refl _ _, HO, by omega, Nat.zero_le _⟩
  case round =>
    obtain ⟨f, kk, cs, hsr, hrow, hcr, hi, hf, hck⟩ := hrel
    have hkk : kk ≤ l.length := hsr.choose_spec.2.2.1
    have hsz : w.heap.size + 1 ≤ wr.heap.size := by have := hcr.size; simpa using this
    obtain ⟨f', rfl⟩ : ∃ f', f = f' + 1 := ⟨f - 1, by omega⟩
    have hi2 := hi.out
    rw [clauseG_lit] at hi2
    have bx0 := box_cell hlr hcr
    have HROW := Lib.hid hrow
    have HCR := Lib.hid hcr
    have HK := Lib.hid hsr.rdrK
    cases hl : litF vars l kk with
    | error x =>
      obtain ⟨fx, px⟩ := x
      have HLIT := Lib.hid (lit_ hsr vars hv _ hl)
      rw [hl] at hi2
      have HOO := Lib.hid hi2.symm
      clear hi2 hi hsr hrow hcr hl
      go_wp2_with fail
      refine HLIT.out.mono ?_
      rintro e w2 ⟨hc2, n, v, rfl, hbad⟩
      have HLW := Lib.hid ((HL0.out.chg_r hr0 HCR.out).chg_r hr0 hc2)
      have HC2 := Lib.hid (HCR.out.trans hc2 (fun i hi => .inl hi))
      have HW := Lib.hid (fun a => Wrap_B HLW.out hbad a)
      obtain ⟨x, rfl⟩ := hbad.iface
      clear hc2 hbad
      go_wp2_with fail
      refine (HW.out _).mono ?_
      rintro e w3 ⟨u, rfl, h3, h4⟩
      have H3 := Lib.hid h3
      have H4 := Lib.hid h4
      obtain ⟨y, rfl⟩ := h3.iface
      clear h3 h4
      go_wp2
      go_ret2
      exact stepC_err HOO.out rfl (HB0.out.trans HC2.out (fun i hi => .inl hi)) H4.out H3.out
    | ok q =>
      obtain ⟨v, m⟩ := q
      have hlo := litF_ok hl
      have HLIT := Lib.hid (lit_ hsr vars hv _ hl)
      rw [hl] at hi2
      simp only at hi2
      have H2 := Lib.hid hi2
      clear hi2 hi hsr hrow hcr hl
      by_cases hv0 : v = 0
      · subst hv0
        have h2 := H2.out
        rw [if_pos rfl] at h2
        have H22 := Lib.hid h2
        clear h2 H2
        go_wp2_with fail
        refine HLIT.out.mono ?_
        rintro e w2 ⟨hc2, rfl, hs2⟩
        have HC2 := Lib.hid (HCR.out.trans hc2 (fun i hi => .inl hi))
        have bx2 := box_cell hlr HC2.out
        have HLW := Lib.hid (HL0.out.chg_r hr0 HC2.out)
        have HROW2 := Lib.hid (HROW.out.chg hc2 (by omega))
        cases hw : wantE [10] l m with
        | error x =>
          obtain ⟨fx, px⟩ := x
          have HWN : Hid (Calls Tryd.prog 71 #[rdr r, .string ⟨#[10]⟩] w2 (Step w2 r l (.error (fx, px)))) := Lib.hid (hw ▸ want_ hs2 ⟨#[10]⟩ (by decide))
          have h2 := H22.out
          rw [hw] at h2
          have HOO := Lib.hid h2.symm
          clear h2 hw hc2 hs2 HROW
          go_wp2_with fail
          refine HWN.out.mono ?_
          rintro e w3 ⟨hc3, v, rfl, hbad⟩
          have HC3 := Lib.hid (HC2.out.trans hc3 (fun i hi => .inl hi))
          have HLW3 := Lib.hid (HL0.out.chg_r hr0 HC3.out)
          have HW := Lib.hid (fun a => Wrap_B HLW3.out hbad a)
          obtain ⟨x, rfl⟩ := hbad.iface
          clear hc3 hbad
          go_wp2_with fail
          refine (HW.out _).mono ?_
          rintro e w4 ⟨u, rfl, h3, h4⟩
          have H3 := Lib.hid h3
          have H4 := Lib.hid h4
          obtain ⟨y, rfl⟩ := h3.iface
          clear h3 h4
          go_wp2
          go_ret2
          exact stepC_err HOO.out rfl (HB0.out.trans HC3.out (fun i hi => .inl hi)) H4.out H3.out
        | ok m2 =>
          have HWN : Hid (Calls Tryd.prog 71 #[rdr r, .string ⟨#[10]⟩] w2 (Step w2 r l (.ok m2))) := Lib.hid (hw ▸ want_ hs2 ⟨#[10]⟩ (by decide))
          have h2 := H22.out
          rw [hw] at h2
          have HOO := Lib.hid h2.symm
          clear h2 hw hc2 hs2 HROW
          go_wp2_with fail
          refine HWN.out.mono ?_
          rintro e w3 ⟨hc3, rfl, hs3⟩
          have HC3 := Lib.hid (HC2.out.trans hc3 (fun i hi => .inl hi))
          have HROW3 := Lib.hid (HROW2.out.chg hc3 (by omega))
          have HS3 := Lib.hid hs3
          have HW := Lib.hid (fun a => Wrap_nil a w3)
          clear hc3 hs3
          go_wp2_with fail
          refine (HW.out _).mono ?_
          rintro e w4 ⟨rfl, rfl⟩
          obtain ⟨A, cap, rfl⟩ := HROW3.out.form
          go_wp2
          go_ret2
          exact stepC_ok HOO.out rfl (HB0.out.trans HC3.out (fun i hi => .inl hi)) HROW3.out HS3.out
      · have h2 := H2.out
        rw [if_neg hv0] at h2
        have H22 := Lib.hid h2
        have hvb : (v == 0) = false := by rw [beq_eq_false_iff_ne]; exact hv0
        clear h2 H2
        obtain ⟨A, cap, rfl⟩ := HROW.out.form
        have hll : cs.length ≤ 100000 := by omega
        go_wp2_with fail
        refine HLIT.out.mono ?_
        rintro e w2 ⟨hc2, rfl, hs2⟩
        have HC2 := Lib.hid (HCR.out.trans hc2 (fun i hi => .inl hi))
        have HROW2 := Lib.hid (HROW.out.chg hc2 (by omega))
        have HSW2 := Lib.hid hs2
        have hsz2 : w.heap.size + 1 ≤ w2.heap.size := by have := HC2.out.size; simpa using this
        clear hc2 hs2 HROW
        go_wp2_with (at_builtin; refine wpList_app rfl _ _ _ rfl 3 (.int .i64 0) 1 8 Tryd.underlying23 infoI rfl (by decide) (.slice A cs.length cap) cs.length (cs.map iv) rfl ?ho w2.heap.size 0 1 1 [.int .i64 v] rfl rfl ?hn ?hs ?c1 ?c2 ?_)
        case ho => exact HROW2.out.1.alloc _
        case hn => exact cellNew1 _ _ _ _ rfl
        case hs => exact oneCell1b rfl
        case c1 => unfold maxLen; omega
        case c2 => omega
        intro v' w3 hp3
        have hap := HROW2.out.app hsz2 hp3
        have HROW3 := Lib.hid hap.1
        have HC3 := Lib.hid (chg_young HC2.out hap.2 (by simp))
        have bx3 := box_young hlr HC2.out hap.2
        have hs3 := HSW2.out.chg hap.2 (fun g hg => by omega)
        have HS3 := Lib.hid hs3
        clear hp3 hap
        have h2 := H22.out
        cases hw : wantE [32] l m with
        | error x =>
          obtain ⟨fx, px⟩ := x
          have HWN : Hid (Calls Tryd.prog 71 #[rdr r, .string ⟨#[32]⟩] w3 (Step w3 r l (.error (fx, px)))) := Lib.hid (hw ▸ want_ hs3 ⟨#[32]⟩ (by decide))
          rw [hw] at h2
          have HOO := Lib.hid h2.symm
          clear h2 hw hs3
          go_wp2_with fail
          refine HWN.out.mono ?_
          rintro e w4 ⟨hc4, v4, rfl, hbad⟩
          have HC4 := Lib.hid (HC3.out.trans hc4 (fun i hi => .inl hi))
          have HLW4 := Lib.hid (HL0.out.chg_r hr0 HC4.out)
          have HW := Lib.hid (fun a => Wrap_B HLW4.out hbad a)
          obtain ⟨x, rfl⟩ := hbad.iface
          clear hc4 hbad
          go_wp2_with fail
          refine (HW.out _).mono ?_
          rintro e w5 ⟨u, rfl, h3, h4⟩
          have H3 := Lib.hid h3
          have H4 := Lib.hid h4
          obtain ⟨y, rfl⟩ := h3.iface
          clear h3 h4
          go_wp2
          go_ret2
          exact stepC_err HOO.out rfl (HB0.out.trans HC4.out (fun i hi => .inl hi)) H4.out H3.out
        | ok m2 =>
          have hm2 : m2 = m + 1 := wantE_ok hw
          have HWN : Hid (Calls Tryd.prog 71 #[rdr r, .string ⟨#[32]⟩] w3 (Step w3 r l (.ok m2))) := Lib.hid (hw ▸ want_ hs3 ⟨#[32]⟩ (by decide))
          rw [hw] at h2
          have HOO := Lib.hid h2
          clear h2 hw hs3
          obtain ⟨A', cap', rfl⟩ := HROW3.out.form
          go_wp2_with fail
          refine HWN.out.mono ?_
          rintro e w4 ⟨hc4, rfl, hs4⟩
          have HC4 := Lib.hid (HC3.out.trans hc4 (fun i hi => .inl hi))
          have HROW4 := Lib.hid (HROW3.out.chg hc4 (by omega))
          have HS4 := Lib.hid hs4
          have hm2l : m2 ≤ l.length := hs4.choose_spec.2.2.1
          clear hc4 hs4
          go_wp2
          go_roundw
          case rel => exact ⟨f', m2, cs ++ [v], HS4.out, (by simpa [ofI] using HROW4.out), HC4.out, HOO, by omega, by rw [List.length_append, List.length_singleton]; omega⟩
          case measure => rw [HK.out, HS4.out.rdrK]; omega
end Go.Proofs.YtnpmaphedcfnnaaDoor
/-
  Package cnf: the reader's formula.
-/
namespace Go.Proofs.YtnpmaphedcfnnaaDoor
open Go.ChangeShapes Go.WideShapes Go.ChangeAt Go.RowKit
set_option linter.unusedVariables false
def StepF (w : World) (r : Nat) (o : Except Wrong (Nat × List (List Int))) (e : Ending) (w' : World) : Prop :=
  Chg (fun i => i = r) w w' ∧ match o with
  | .ok (n, L) => ∃ f fp B, e = .returned (.tuple #[.pointer (some ⟨f, 0, none⟩), .nilIface]) ∧ FAtF fp B w' f (n : Int) L ∧ w.heap.size ≤ B ∧ ∀ g, fp g → w.heap.size ≤ g
  | .error (f, p) => ∃ v, e = .returned (.tuple #[.pointer none, v]) ∧ Bad w' f p v
theorem stepF_err {w w1 : World} {r : Nat} {o : Except Wrong (Nat × List (List Int))} {f p : Nat} {v x : Value} (ho : o = .error (f, p)) (hx : x = .tuple #[.pointer none, v]) (h1 : Chg (fun i => i = r) w w1) (hb : Bad w1 f p v) : StepF w r o (.returned x) w1 := by
  subst ho hx
  exact ⟨h1, _, rfl, hb⟩
theorem stepF_ok {w w1 : World} {r f B n : Nat} {fp : Nat → Prop} {L : List (List Int)} {o : Except Wrong (Nat × List (List Int))} {x : Value} (ho : o = .ok (n, L)) (hx : x = .tuple #[.pointer (some ⟨f, 0, none⟩), .nilIface]) (h1 : Chg (fun i => i = r) w w1) (hf : FAtF fp B w1 f (n : Int) L) (hB : w.heap.size ≤ B) (hfp : ∀ g, fp g → w.heap.size ≤ g) : StepF w r o (.returned x) w1 := by
  subst ho hx
  exact ⟨h1, _, _, _, rfl, hf, hB, hfp⟩
theorem formF_eq (l : List UInt8) (k : Nat) : formF l k = match uptoF l k with
    | .error x => .error x
    | .ok (vars, e1) => match wantE [32] l e1 with
      | .error x => .error x
      | .ok m1 => match uptoF l m1 with
        | .error x => .error x
        | .ok (many, e2) => match wantE [10] l e2 with
          | .error x => .error x
          | .ok m2 => match clausesF vars l many m2 [] with
            | .error x => .error x
            | .ok (L, e3) => if e3 < l.length then .error (13, e3) else .ok (vars, L) := by
  unfold formF
  cases uptoF l k with
  | error x => rfl
  | ok q =>
    obtain ⟨vars, e1⟩ := q
    simp only [wantE]
    cases wantF [32] l e1 with
    | some x => rfl
    | none =>
      simp only [List.length_singleton]
      cases uptoF l (e1 + 1) with
      | error x => rfl
      | ok q2 =>
        obtain ⟨many, e2⟩ := q2
        simp only
        cases wantF [10] l e2 with
        | some x => rfl
        | none => rfl
theorem clauseG_len {vars : Nat} {l : List UInt8} : ∀ {f k : Nat} {c c' : List Int} {e : Nat}, clauseG vars l f k c = .ok (c', e) → c'.length ≤ c.length + f
  | 0, k, c, c', e, h => by simp [clauseG] at h
  | f + 1, k, c, c', e, h => by
    rw [clauseG_lit] at h
    cases hl : litF vars l k with
    | error x => rw [hl] at h; simp at h
    | ok p =>
      obtain ⟨v, e1⟩ := p
      rw [hl] at h
      simp only at h
      split at h
      · cases hw : wantE [10] l e1 with
        | error x => rw [hw] at h; simp at h
        | ok m => rw [hw] at h; simp at h; obtain ⟨rfl, -⟩ := h; omega
      · cases hw : wantE [32] l e1 with
        | error x => rw [hw] at h; simp at h
        | ok m =>
          rw [hw] at h
          have := clauseG_len h
          rw [List.length_append, List.length_singleton] at this
          omega
theorem clausesF_step (vars : Nat) (l : List UInt8) (n k : Nat) (L : List (List Int)) : clausesF vars l (n + 1) k L = match clauseF vars l k with
    | .error x => .error x
    | .ok (c, e) => clausesF vars l n e (L ++ [c]) := by
  rw [clausesF]
  cases clauseF vars l k <;> rfl
theorem right_of {c : List Int} {vars : Nat} (h : ∀ x ∈ c, x ≠ 0 ∧ x.natAbs ≤ vars) : rightB c (vars : Int) = true := by
  unfold rightB
  rw [List.all_eq_true]
  intro x hx
  have := h x hx
  rw [decide_eq_true_eq]
  omega
set_option maxHeartbeats 4000000 in
theorem formula_ {w : World} {r : Nat} {l : List UInt8} {k : Nat} (hL : Laid w) (hr0 : 0 < r) (h : ScanAt w r l k) (o : Except Wrong (Nat × List (List Int))) (ho : formF l k = o) : Calls Tryd.prog 52 #[rdr r] w (StepF w r o) := by
  have hb0 := below_new1 w (.cells #[.pointer (some ⟨r, 0, none⟩)] 87)
  have hs := h.below hb0
  have HB0 := Lib.hid (Chg.of_below (S := fun i => i = r) hb0)
  have hlr : r < w.heap.size := h.choose_spec.1.lt
  have HL0 := Lib.hid (hL.below hb0)
  have HU := Lib.hid (upto_ hs)
  rw [formF_eq] at ho
  cases hu : uptoF l k with
  | error x =>
    obtain ⟨fx, px⟩ := x
    rw [hu] at HU ho
    have HOO := Lib.hid ho.symm
    have HUU := HU
    clear HU hu ho hs h hb0 hL
    go_enter Tryd.func52, Tryd.ntmps52
    go_wp2_with fail
    refine HUU.out.mono ?_
    rintro e w2 ⟨hc2, n, v, rfl, hbad⟩
    have HBAD := Lib.hid hbad
    have HC2 := Lib.hid (HB0.out.trans hc2 (fun i hi => .inl hi))
    obtain ⟨x, rfl⟩ := hbad.iface
    clear hc2 hbad
    go_wp2
    go_ret2
    exact stepF_err HOO.out rfl HC2.out HBAD.out
  | ok q =>
    obtain ⟨vars, e1⟩ := q
    have hvars := (uptoF_ok hu).1
    rw [hu] at HU ho
    have HO1 := Lib.hid ho
    have HUU := HU
    clear HU hu ho hs h hb0 hL
    go_enter Tryd.func52, Tryd.ntmps52
    go_wp2_with fail
    refine HUU.out.mono ?_
    rintro e w2 ⟨hc2, rfl, hs2⟩
    have HC2 := Lib.hid hc2
    have bx2 := box_cell hlr HC2.out
    have HS2 := Lib.hid hs2
    clear hc2 HUU
    have ho1 := HO1.out
    cases hw : wantE [32] l e1 with
    | error x =>
      obtain ⟨fx, px⟩ := x
      have HWN : Hid (Calls Tryd.prog 71 #[rdr r, .string ⟨#[32]⟩] w2 (Step w2 r l (.error (fx, px)))) := Lib.hid (hw ▸ want_ hs2 ⟨#[32]⟩ (by decide))
      rw [hw] at ho1
      have HOO := Lib.hid ho1.symm
      clear ho1 hw hs2
      go_wp2_with fail
      refine HWN.out.mono ?_
      rintro e w3 ⟨hc3, v, rfl, hbad⟩
      have HBAD := Lib.hid hbad
      have HC3 := Lib.hid (HC2.out.trans hc3 (fun i hi => .inl hi))
      obtain ⟨x, rfl⟩ := hbad.iface
      clear hc3 hbad
      go_wp2
      go_ret2
      exact stepF_err HOO.out rfl (HB0.out.trans HC3.out (fun i hi => .inl hi)) HBAD.out
    | ok m1 =>
      have HWN : Hid (Calls Tryd.prog 71 #[rdr r, .string ⟨#[32]⟩] w2 (Step w2 r l (.ok m1))) := Lib.hid (hw ▸ want_ hs2 ⟨#[32]⟩ (by decide))
      rw [hw] at ho1
      simp only at ho1
      have HO2 := Lib.hid ho1
      clear ho1 hw hs2
      go_wp2_with fail
      refine HWN.out.mono ?_
      rintro e w3 ⟨hc3, rfl, hs3⟩
      have HC3 := Lib.hid (HC2.out.trans hc3 (fun i hi => .inl hi))
      have bx3 := box_cell hlr HC3.out
      have HU := Lib.hid (upto_ hs3)
      have ho2 := HO2.out
      clear hc3 hs3
      cases hu : uptoF l m1 with
      | error x =>
        obtain ⟨fx, px⟩ := x
        rw [hu] at HU ho2
        have HOO := Lib.hid ho2.symm
        have HUU := HU
        clear HU hu ho2
        go_wp2_with fail
        refine HUU.out.mono ?_
        rintro e w4 ⟨hc4, n, v, rfl, hbad⟩
        have HBAD := Lib.hid hbad
        have HC4 := Lib.hid (HC3.out.trans hc4 (fun i hi => .inl hi))
        obtain ⟨x, rfl⟩ := hbad.iface
        clear hc4 hbad
        go_wp2
        go_ret2
        exact stepF_err HOO.out rfl (HB0.out.trans HC4.out (fun i hi => .inl hi)) HBAD.out
      | ok q =>
        obtain ⟨many, e2⟩ := q
        have hmany := (uptoF_ok hu).1
        rw [hu] at HU ho2
        simp only at ho2
        have HO3 := Lib.hid ho2
        have HUU := HU
        clear HU hu ho2
        go_wp2_with fail
        refine HUU.out.mono ?_
        rintro e w4 ⟨hc4, rfl, hs4⟩
        have HC4 := Lib.hid (HC3.out.trans hc4 (fun i hi => .inl hi))
        have bx4 := box_cell hlr HC4.out
        have ho3 := HO3.out
        clear hc4 HUU
        cases hw : wantE [10] l e2 with
        | error x =>
          obtain ⟨fx, px⟩ := x
          have HWN : Hid (Calls Tryd.prog 71 #[rdr r, .string ⟨#[10]⟩] w4 (Step w4 r l (.error (fx, px)))) := Lib.hid (hw ▸ want_ hs4 ⟨#[10]⟩ (by decide))
          rw [hw] at ho3
          have HOO := Lib.hid ho3.symm
          clear ho3 hw hs4
          go_wp2_with fail
          refine HWN.out.mono ?_
          rintro e w5 ⟨hc5, v, rfl, hbad⟩
          have HBAD := Lib.hid hbad
          have HC5 := Lib.hid (HC4.out.trans hc5 (fun i hi => .inl hi))
          obtain ⟨x, rfl⟩ := hbad.iface
          clear hc5 hbad
          go_wp2
          go_ret2
          exact stepF_err HOO.out rfl (HB0.out.trans HC5.out (fun i hi => .inl hi)) HBAD.out
        | ok m2 =>
          have HWN : Hid (Calls Tryd.prog 71 #[rdr r, .string ⟨#[10]⟩] w4 (Step w4 r l (.ok m2))) := Lib.hid (hw ▸ want_ hs4 ⟨#[10]⟩ (by decide))
          rw [hw] at ho3
          simp only at ho3
          have HO4 := Lib.hid ho3
          clear ho3 hw hs4
          go_wp2_with fail
          refine HWN.out.mono ?_
          rintro e w5 ⟨hc5, rfl, hs5⟩
          have HC5 := Lib.hid (HC4.out.trans hc5 (fun i hi => .inl hi))
          have hsz5 : w.heap.size + 1 ≤ w5.heap.size := by have := HC5.out.size; simpa using this
          have HS5 := Lib.hid hs5
          have HNW := Lib.hid (New_F (vars : Int) (by omega) (by omega) w5)
          clear hc5 hs5
          go_wp2_with fail
          refine HNW.out.mono ?_
          rintro e w6 ⟨rfl, hf6, hb6, hz6⟩
          have HC6 := Lib.hid (below_chg HC5.out hb6)
          have HS6 := Lib.hid (HS5.out.below hb6)
          have HF6 := Lib.hid hf6
          clear hf6 hb6
          have hrB : r < w5.heap.size := by omega
          have hw56 : w5.heap.size ≤ w6.heap.size := by omega
          clear hz6
          go_wp2
          go_loopw [44] (fun i wr => ∃ j kk L fp, j ≤ many ∧ i = .int .i64 (j : Int) ∧ ScanAt wr r l kk ∧ FAtF fp w5.heap.size wr w5.heap.size (vars : Int) L ∧ (∀ g, fp g → w5.heap.size ≤ g) ∧ Chg (fun i => i = r) (w.alloc (.cells #[.pointer (some ⟨r, 0, none⟩)] 87)) wr ∧ w5.heap.size ≤ wr.heap.size ∧ Hid (L.length = j) ∧ Hid (clausesF vars l (many - j) kk L = clausesF vars l many m2 [])) (fun i _ => many - (intOf i).toNat)
          case atStart => exact ⟨0, m2, [], _, Nat.zero_le _, rfl, HS6.out, HF6.out, fun g hg => by omega, HC6.out, hw56, Lib.hid rfl, Lib.hid rfl⟩
          case round =>
            obtain ⟨j, kk, L, fp, hj, rfl, hsr, hfr, hfp, hcr, hszr, hLj, hi⟩ := hrel
            have bxr := box_cell hlr hcr
            have HCR := Lib.hid hcr
            have HFR := Lib.hid hfr
            have HFP := Lib.hid hfp
            have HSR := Lib.hid hsr
            have hmm : (many : Int) ≤ 65536 := by omega
            clear hcr hfr hfp
            by_cases hlt : (j : Int) < (many : Int)
            · have hjm : j < many := by omega
              have hi2 := hi.out
              rw [show many - j = (many - (j + 1)) + 1 by omega] at hi2
              rw [clausesF_step] at hi2
              have HCL := Lib.hid (clause_ (HL0.out.chg_r hr0 HCR.out) hr0 hsr vars hvars _ rfl)
              have ho4 := HO4.out
              clear hi hsr
              cases hc : clauseF vars l kk with
              | error x =>
                obtain ⟨fx, px⟩ := x
                rw [hc] at hi2 HCL
                rw [← hi2] at ho4
                have HOO := Lib.hid ho4.symm
                have HCC := HCL
                clear HCL hc hi2 ho4
                go_wp2_with fail
                refine HCC.out.mono ?_
                rintro e w7 ⟨hc7, n, v, rfl, hbad⟩
                have HBAD := Lib.hid hbad
                have HC7 := Lib.hid (HCR.out.trans hc7 (fun i hi => .inl hi))
                obtain ⟨x, rfl⟩ := hbad.iface
                clear hc7 hbad
                go_wp2
                go_ret2
                exact stepF_err HOO.out rfl (HB0.out.trans HC7.out (fun i hi => .inl hi)) HBAD.out
              | ok q =>
                obtain ⟨c, e3⟩ := q
                have hcl := clauseG_len hc
                have hcr := Lib.hid (right_of (clauseF_ok hc).1)
                have hkl : l.length ≤ 100000 := HSR.out.choose_spec.2.2.2.1
                rw [hc] at hi2 HCL
                have HI := Lib.hid hi2
                have HCC := HCL
                have hcl2 : c.length ≤ 1099511627776 := by rw [List.length_nil] at hcl; omega
                clear HCL hc hi2 ho4 hcl
                go_wp2_with fail
                refine HCC.out.mono ?_
                rintro e w7 ⟨hc7, u, rfl, hu7, hown7, hs7⟩
                have HC7 := Lib.hid (HCR.out.trans hc7 (fun i hi => .inl hi))
                have HS7 := Lib.hid hs7
                have hsz7 : w5.heap.size ≤ w7.heap.size := Nat.le_trans hszr hc7.size
                have hf7 := HFR.out.chg hc7 (fun g hg e => by have := HFP.out g hg; omega)
                have hx7 : L.length ≤ 1000000 := by have := hLj.out; omega
                have HAD := Lib.hid (Add_yes hf7 hsz7 (by omega) (by omega) hu7 hcr.out hx7 hcl2)
                obtain ⟨A, cap, rfl⟩ : ∃ A cap, u = .slice A c.length cap := by obtain ⟨A, cap, e, -⟩ := hu7; exact ⟨A, cap, e⟩
                clear hc7 hs7 hf7 hu7 hown7
                go_wp2_with fail
                refine HAD.out.mono ?_
                rintro e w8 ⟨rfl, fp', hf8, hc8, hfp8, hb8⟩
                have hy : Chg (fun i => w5.heap.size ≤ i) w7 w8 := hc8.mono (fun g hg => HFP.out g hg)
                have HC8 := Lib.hid (chg_young HC7.out hy (by simpa using hsz5))
                have HF8 := Lib.hid hf8
                have HFP8 := Lib.hid (fun g (hg : fp' g) => (hfp8 g hg).elim (fun h => HFP.out g h) (fun h => Nat.le_trans hsz7 h))
                have HS8 := Lib.hid (HS7.out.chg hy (fun g hg => by omega))
                have hsz8 : w5.heap.size ≤ w8.heap.size := Nat.le_trans hsz7 hc8.size
                clear hf8 hc8 hfp8 hb8 hy
                go_wp2
                go_roundw
                case rel => exact ⟨j + 1, e3, L ++ [c], fp', by omega, by go_num, HS8.out, HF8.out, HFP8.out, HC8.out, hsz8, Lib.hid (by rw [List.length_append, List.length_singleton, hLj.out]), HI⟩
                case measure => simp [intOf]; omega
            · have hjm : j = many := by omega
              have hi2 := hi.out
              rw [show many - j = 0 by omega] at hi2
              have ho4 := HO4.out
              rw [← hi2] at ho4
              have e0 : clausesF vars l 0 kk L = .ok (L, kk) := rfl
              rw [e0] at ho4
              simp only at ho4
              have HLF := Lib.hid (Left_ hsr)
              have HFS := Lib.hid hsr
              clear hi hi2 e0 hsr
              by_cases hk : kk < l.length
              · rw [if_pos hk] at ho4
                have HOO := Lib.hid ho4.symm
                have hpos : (0 : Int) < ((l.length - kk : Nat) : Int) := by omega
                clear ho4
                generalize l.length - kk = ll at *
                go_wp2_with fail
                refine HLF.out.mono ?_
                rintro e w7 ⟨rfl, hq⟩
                have HAT := Lib.hid (At_ (HFS.out.qt hq))
                have bx7 := box_cell hlr (HCR.out.trans (hq.chg (Chg.refl (fun i => i = r) _)) (fun i hi => .inl hi))
                have HC7 := Lib.hid (HCR.out.trans (hq.chg (Chg.refl (fun i => i = r) _)) (fun i hi => .inl hi))
                have HNE := Lib.hid (New_B 13 kk (by decide) w7)
                clear hq
                go_wp2_with fail
                refine HAT.out.mono ?_
                rintro e w8 ⟨rfl, rfl⟩
                go_wp2_with fail
                refine HNE.out.mono ?_
                rintro e w9 ⟨v, rfl, h3, h4⟩
                have H3 := Lib.hid h3
                have H4 := Lib.hid h4
                obtain ⟨x, rfl⟩ := h3.iface
                clear h3 h4
                go_wp2
                go_ret2
                exact stepF_err HOO.out rfl (HB0.out.trans (below_chg HC7.out H4.out) (fun i hi => .inl hi)) H3.out
              · rw [if_neg hk] at ho4
                have HOO := Lib.hid ho4.symm
                have hpos : ((l.length - kk : Nat) : Int) = 0 := by omega
                rw [hpos] at HLF
                have HLL := HLF
                clear ho4 hpos HLF
                go_wp2_with fail
                refine HLL.out.mono ?_
                rintro e w7 ⟨rfl, hq⟩
                have HC7 := Lib.hid (HCR.out.trans (hq.chg (Chg.refl (fun i => i = r) _)) (fun i hi => .inl hi))
                have HF7 := Lib.hid (HFR.out.below hq.below)
                clear hq
                go_wp2
                go_ret2
                exact stepF_ok HOO.out rfl (HB0.out.trans HC7.out (fun i hi => .inl hi)) HF7.out (by omega) (fun g hg => by have := HFP.out g hg; omega)
end Go.Proofs.YtnpmaphedcfnnaaDoor
