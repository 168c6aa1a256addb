/-
  Reports (api.Report) as plain data; which are right: the program's.
-/
import Derived.Test.YtamgbfkpblpfiaaGreatDoorRpA
import Derived.Test.YtamgbfkpblpfiaaGreatDoorTrI
import Derived.Test.YtamgbfkpblpfiaaGreatDoorTrE
import Derived.Lib.Strings
import Derived.Test.YtamgbfkpblpfiaaGreatDoorIntsG
namespace Go.Proofs.YtamgbfkpblpfiaaGreatDoor
open Go.ChangeShapes Go.WideShapes Go.ChangeAt Go.RowKit
set_option linter.unusedVariables false
structure RpD where
  verdict : Int
  depth : Int
  fault : Int
  place : Int
  tr : TrD
  calls : Int
  conf : Int
  spent : Bool
  ports : List Int
def rpA (d : RpD) (vl vm vi vp : Value) : Array Value := #[.int .i64 d.verdict, .int .i64 d.depth, .int .i64 d.fault, .int .i64 d.place, vl, vm, vi, .int .i64 d.tr.bad, .int .i64 d.calls, .int .i64 d.conf, .bool d.spent, vp]
def rpV (d : RpD) (vl vm vi vp : Value) : Value := .agg #[.int .i64 d.verdict, .int .i64 d.depth, .int .i64 d.fault, .int .i64 d.place, vl, vm, vi, .int .i64 d.tr.bad, .int .i64 d.calls, .int .i64 d.conf, .bool d.spent, vp]
structure RpP (w : World) (d : RpD) (vl vm vi vp : Value) : Prop where
  tr : TrP w d.tr vl vm vi
  ports : Ints w vp d.ports
theorem RpP.below {w w' : World} {d : RpD} {vl vm vi vp : Value} (h : RpP w d vl vm vi vp) (hb : Below w.heap.size w w') : RpP w' d vl vm vi vp := ⟨h.tr.below hb, h.ports.below hb⟩
def tr0 : TrD := ⟨[], [], [], 0⟩
theorem tr0_at (w : World) : TrP w tr0 (.slice none 0 0) (.slice none 0 0) (.slice none 0 0) := ⟨Seq.nil _ _ _ _, Seq.nil _ _ _ _, Seq.nil _ _ _ _⟩
def within (n : Int) : Bool := decide (0 ≤ n ∧ n ≤ 1099511627776)
def okP (ps : List Int) (i : Nat) : Bool := decide (0 ≤ ps.getD i 0 ∧ ps.getD i 0 < 64) && (decide (i = 0) || decide (ps.getD (i - 1) 0 < ps.getD i 0))
def portsB (ps : List Int) : Bool := (List.range ps.length).all (okP ps)
def oneR (d : RpD) : Bool := decide (wordV d.verdict ≠ []) && decide (nameV d.fault ≠ []) && decide (d.ports.length ≤ 64) && rightT d.tr
def withR (d : RpD) : Bool := within d.depth && within d.place && within d.calls && within d.conf
def lastR (d : RpD) : Bool := d.verdict == 2 || sameT d.tr tr0
def rightR (d : RpD) : Bool := oneR d && withR d && portsB d.ports && lastR d
theorem str_ne {s : ByteArray} (h : 0 < s.size) : s.toList.isEmpty = false ∧ ¬ s.toList = [] := by
  rw [Lib.toList_data]
  have : s.data.toList ≠ [] := fun e => by
    have h2 : s.data.toList.length = 0 := by rw [e]; rfl
    have : s.size = s.data.toList.length := by rw [Array.length_toList]; rfl
    omega
  exact ⟨by simpa using this, this⟩
theorem bs_str {l : List UInt8} (h : l ≠ []) : (bs l).toList.isEmpty = false ∧ ¬ (bs l).toList = [] := str_ne (by rw [bs_size]; exact List.length_pos_iff.2 h)
theorem load_agg12 {w : World} {g : Nat} {t : TypeId} {v0 v1 v2 v3 v4 v5 v6 v7 v8 v9 v10 v11 : Value} (h : Blk w g t #[v0, v1, v2, v3, v4, v5, v6, v7, v8, v9, v10, v11]) : w.cell? ⟨g, 0, none⟩ = some v0 ∧ w.cell? ⟨g, 1, none⟩ = some v1 ∧ w.cell? ⟨g, 2, none⟩ = some v2 ∧ w.cell? ⟨g, 3, none⟩ = some v3 ∧ w.cell? ⟨g, 4, none⟩ = some v4 ∧ w.cell? ⟨g, 5, none⟩ = some v5 ∧ w.cell? ⟨g, 6, none⟩ = some v6 ∧ w.cell? ⟨g, 7, none⟩ = some v7 ∧ w.cell? ⟨g, 8, none⟩ = some v8 ∧ w.cell? ⟨g, 9, none⟩ = some v9 ∧ w.cell? ⟨g, 10, none⟩ = some v10 ∧ w.cell? ⟨g, 11, none⟩ = some v11 :=
  ⟨h.cell 0, h.cell 1, h.cell 2, h.cell 3, h.cell 4, h.cell 5, h.cell 6, h.cell 7, h.cell 8, h.cell 9, h.cell 10, h.cell 11⟩
/-- Between two statements: the box. -/
def RBx (w : World) (cs : Array Value) (wr : World) : Prop := Blk wr w.heap.size 33 cs ∧ Below w.heap.size w wr
theorem RBx.below {w wr w' : World} {cs : Array Value} (h : RBx w cs wr) (hb : Below wr.heap.size wr w') : RBx w cs w' := ⟨h.1.below hb h.1.lt, h.2.trans (hb.mono h.2.size)⟩
theorem RBx.new (w : World) (cs : Array Value) : RBx w cs (w.alloc (.cells cs 33)) := ⟨Blk.new w 33 cs, (Below.refl _ _).alloc (Nat.le_refl _) _⟩
def RightPost (w : World) (b : Bool) (e : Ending) (w' : World) : Prop := e = .returned (.bool b) ∧ Below w.heap.size w w'
theorem oneR_word {d : RpD} (h : wordV d.verdict = []) : rightR d = false := by simp [rightR, oneR, h]
theorem oneR_name {d : RpD} (h : nameV d.fault = []) : rightR d = false := by simp [rightR, oneR, h]
theorem oneR_ports {d : RpD} (h : ¬ d.ports.length ≤ 64) : rightR d = false := by simp [rightR, oneR, h]
theorem oneR_tr {d : RpD} (h : rightT d.tr = false) : rightR d = false := by simp [rightR, oneR, h]
theorem withR_no {d : RpD} (h : withR d = false) : rightR d = false := by simp [rightR, h]
theorem portsR_no {d : RpD} (h : portsB d.ports = false) : rightR d = false := by simp [rightR, h]
theorem portsB_no {ps : List Int} {k : Nat} (hk : k < ps.length) (h : okP ps k = false) : portsB ps = false := by
  unfold portsB
  rw [List.all_eq_false]
  exact ⟨k, by simpa using hk, by simp [h]⟩
theorem portsB_yes {ps : List Int} (h : ∀ j, j < ps.length → okP ps j = true) : portsB ps = true := by
  unfold portsB
  rw [List.all_eq_true]
  intro j hj
  exact h j (by simpa using hj)
theorem rightR_last {d : RpD} (h1 : oneR d = true) (h2 : withR d = true) (h3 : portsB d.ports = true) : rightR d = lastR d := by simp [rightR, h1, h2, h3]
/-- What stands before a round over the ports. -/
def PoRel (w : World) (cs : Array Value) (ps : List Int) (k : Nat) (wr : World) : Prop := (∀ j, j < k → okP ps j = true) ∧ RBx w cs wr
theorem okP_at {ps : List Int} {k : Nat} {x y : Int} (hx : x = ps.getD k 0) (hy : 0 < k → y = ps.getD (k - 1) 0) : okP ps k = (decide (0 ≤ x ∧ x < 64) && (decide (k = 0) || decide (y < x))) := by
  unfold okP
  rw [← hx]
  by_cases h : k = 0
  · simp [h]
  · rw [hy (by omega)]
set_option maxHeartbeats 8000000 in
set_option maxRecDepth 100000 in
theorem report_Right {w : World} {d : RpD} {vl vm vi vp : Value} (h : RpP w d vl vm vi vp) : Calls Tryz.prog 22 #[rpV d vl vm vi vp] w (RightPost w (rightR d)) := by
  obtain ⟨a1, c1, hv1⟩ := h.tr.lat.len
  obtain ⟨a2, c2, hv2, -, -⟩ := h.tr.mems.form
  obtain ⟨a3, c3, hv3, -, -⟩ := h.tr.ins.form
  have hints := h.ports
  obtain ⟨a4, c4, hv4, -, hp1, hp2, hcells⟩ := h.ports
  have H := Lib.hid h
  have HCE := Lib.hid hcells
  obtain ⟨ans, hans⟩ : ∃ ans, ans = rightR d := ⟨_, rfl⟩
  rw [← hans]
  have hBx := RBx.new w (rpA d vl vm vi vp)
  have K : Hid (∀ W, RBx w (rpA d vl vm vi vp) W → W.cell? ⟨w.heap.size, 0, none⟩ = some (.int .i64 d.verdict) ∧ W.cell? ⟨w.heap.size, 1, none⟩ = some (.int .i64 d.depth) ∧ W.cell? ⟨w.heap.size, 2, none⟩ = some (.int .i64 d.fault) ∧ W.cell? ⟨w.heap.size, 3, none⟩ = some (.int .i64 d.place) ∧ W.cell? ⟨w.heap.size, 4, none⟩ = some vl ∧ W.cell? ⟨w.heap.size, 5, none⟩ = some vm ∧ W.cell? ⟨w.heap.size, 6, none⟩ = some vi ∧ W.cell? ⟨w.heap.size, 7, none⟩ = some (.int .i64 d.tr.bad) ∧ W.cell? ⟨w.heap.size, 8, none⟩ = some (.int .i64 d.calls) ∧ W.cell? ⟨w.heap.size, 9, none⟩ = some (.int .i64 d.conf) ∧ W.cell? ⟨w.heap.size, 10, none⟩ = some (.bool d.spent) ∧ W.cell? ⟨w.heap.size, 11, none⟩ = some vp) := Lib.hid fun W hW => load_agg12 hW.1
  have W1 := Lib.hid (fun W => report_Word d.verdict W)
  have N1 := Lib.hid (fun W => report_Name d.fault W)
  have T1 := Lib.hid (fun W (hW : Below w.heap.size w W) => trace_Right (h.tr.below hW))
  have S1 := Lib.hid (fun W (hW : Below w.heap.size w W) => trace_Same (h.tr.below hW) (tr0_at W))
  unfold trV at T1 S1
  have B0 := Lib.hid hBx
  unfold rpV
  subst hv1 hv2 hv3 hv4
  obtain ⟨np, hnp⟩ : ∃ np, np = d.ports.length := ⟨_, rfl⟩
  rw [← hnp] at hp1 ⊢
  have hbig : np ≤ 9223372036854775807 := Nat.le_trans hp1 hp2
  have NP := Lib.hid hnp
  have HA := Lib.hid hans
  clear h hints hcells hnp hans hBx hp1 hp2
  rw [← NP.out] at K B0
  have e0 : bs [] = ⟨#[]⟩ := rfl
  have E0 := Lib.hid e0
  clear e0
  by_cases hw : wordV d.verdict = []
  · have HX := Lib.hid (HA.out.trans (oneR_word hw))
    rw [hw, E0.out] at W1
    clear hw HA
    go_enter Tryz.func22, Tryz.ntmps22
    go_wp2_with fail
    refine (W1.out _).mono ?_
    rintro e w1 ⟨rfl, hb⟩
    have B1 := Lib.hid (B0.out.below hb)
    clear hb
    go_wp2
    go_ret
    exact ⟨by rw [HX.out]; rfl, B1.out.2⟩
  obtain ⟨n1, n2⟩ := bs_str hw
  by_cases hf : nameV d.fault = []
  · have HX := Lib.hid (HA.out.trans (oneR_name hf))
    rw [hf, E0.out] at N1
    generalize bs (wordV d.verdict) = s1 at *
    clear hw hf HA
    go_enter Tryz.func22, Tryz.ntmps22
    go_wp2_with fail
    refine (W1.out _).mono ?_
    rintro e w1 ⟨rfl, hb⟩
    have B1 := Lib.hid (B0.out.below hb)
    obtain ⟨k0, k1, k2, k3, k4, k5, k6, k7, k8, k9, k10, k11⟩ := K.out _ B1.out
    clear hb
    go_wp2_with fail
    refine (N1.out _).mono ?_
    rintro e w2 ⟨rfl, hb⟩
    have B2 := Lib.hid (B1.out.below hb)
    clear hb
    go_wp2
    go_ret
    exact ⟨by rw [HX.out]; rfl, B2.out.2⟩
  obtain ⟨n3, n4⟩ := bs_str hf
  by_cases hp : ¬ np ≤ 64
  · have HX := Lib.hid (HA.out.trans (oneR_ports (by rw [← NP.out]; exact hp)))
    generalize bs (wordV d.verdict) = s1 at *
    generalize bs (nameV d.fault) = s2 at *
    have c1 : decide ((64 : Int) < (np : Int)) = true := decide_eq_true (by omega)
    clear hw hf HA hp
    go_enter Tryz.func22, Tryz.ntmps22
    go_wp2_with fail
    refine (W1.out _).mono ?_
    rintro e w1 ⟨rfl, hb⟩
    have B1 := Lib.hid (B0.out.below hb)
    obtain ⟨k0, k1, k2, k3, k4, k5, k6, k7, k8, k9, k10, k11⟩ := K.out _ B1.out
    clear hb
    go_wp2_with fail
    refine (N1.out _).mono ?_
    rintro e w2 ⟨rfl, hb⟩
    have B2 := Lib.hid (B1.out.below hb)
    clear hb k0 k1 k2 k3 k4 k5 k6 k7 k8 k9 k10 k11
    obtain ⟨k0, k1, k2, k3, k4, k5, k6, k7, k8, k9, k10, k11⟩ := K.out _ B2.out
    go_wp2
    go_ret
    exact ⟨by rw [HX.out]; rfl, B2.out.2⟩
  have c1 : decide ((64 : Int) < (np : Int)) = false := decide_eq_false (by omega)
  have hp64 : np ≤ 64 := by omega
  have HNO : Hid (rightT d.tr = false → ans = false) := Lib.hid fun h => HA.out.trans (oneR_tr h)
  have HONE : Hid (rightT d.tr = true → oneR d = true) := Lib.hid fun h => by
    unfold oneR
    rw [h, decide_eq_true hw, decide_eq_true hf, decide_eq_true (by rw [← NP.out]; exact hp64)]
    rfl
  generalize bs (wordV d.verdict) = s1 at *
  generalize bs (nameV d.fault) = s2 at *
  generalize rightT d.tr = rt at *
  clear hw hf hp E0
  go_enter Tryz.func22, Tryz.ntmps22
  go_wp2_with fail
  refine (W1.out _).mono ?_
  rintro e w1 ⟨rfl, hb⟩
  have B1 := Lib.hid (B0.out.below hb)
  obtain ⟨k0, k1, k2, k3, k4, k5, k6, k7, k8, k9, k10, k11⟩ := K.out _ B1.out
  clear hb
  go_wp2_with fail
  refine (N1.out _).mono ?_
  rintro e w2 ⟨rfl, hb⟩
  have B2 := Lib.hid (B1.out.below hb)
  clear hb k0 k1 k2 k3 k4 k5 k6 k7 k8 k9 k10 k11
  obtain ⟨k0, k1, k2, k3, k4, k5, k6, k7, k8, k9, k10, k11⟩ := K.out _ B2.out
  go_wp2_with fail
  refine (T1.out _ B2.out.2).mono ?_
  rintro e w3 ⟨rfl, hb⟩
  have B3 := Lib.hid (B2.out.below hb)
  clear hb k0 k1 k2 k3 k4 k5 k6 k7 k8 k9 k10 k11 n1 n2 n3 n4 c1
  obtain ⟨k0, k1, k2, k3, k4, k5, k6, k7, k8, k9, k10, k11⟩ := K.out _ B3.out
  cases rt with
  | false =>
    have HX := Lib.hid (HNO.out rfl)
    go_wp2
    go_ret
    exact ⟨by rw [HX.out]; rfl, B3.out.2⟩
  | true =>
    have HO := Lib.hid (HONE.out rfl)
    clear HNO HONE
    have HW : Hid (withR d = false → ans = false) := Lib.hid fun h => HA.out.trans (withR_no h)
    have HWD : Hid (withR d = (within d.depth && within d.place && within d.calls && within d.conf)) := Lib.hid rfl
    have HF : Hid (withR d = true → portsB d.ports = true → ans = lastR d) := Lib.hid fun h1 h2 => HA.out.trans (rightR_last HO.out h1 h2)
    have HPN : Hid (portsB d.ports = false → ans = false) := Lib.hid fun h => HA.out.trans (portsR_no h)
    generalize hx0 : d.depth = x0 at *
    generalize hx1 : d.place = x1 at *
    generalize hx2 : d.calls = x2 at *
    generalize hx3 : d.conf = x3 at *
    generalize hlr : lastR d = lr at *
    have HLR := Lib.hid hlr
    generalize hwr : withR d = wb at *
    clear hx0 hx1 hx2 hx3 hwr hlr HO HA W1 N1 T1
    have i0 : ∀ w, (Instr.index 102 (.agg #[.int .i64 x0, .int .i64 x1, .int .i64 x2, .int .i64 x3]) (.int .i64 0)).run Tryz.prog w = .ok (.int .i64 x0) w := fun _ => by kernel_rfl
    have i1 : ∀ w, (Instr.index 102 (.agg #[.int .i64 x0, .int .i64 x1, .int .i64 x2, .int .i64 x3]) (.int .i64 1)).run Tryz.prog w = .ok (.int .i64 x1) w := fun _ => by kernel_rfl
    have i2 : ∀ w, (Instr.index 102 (.agg #[.int .i64 x0, .int .i64 x1, .int .i64 x2, .int .i64 x3]) (.int .i64 2)).run Tryz.prog w = .ok (.int .i64 x2) w := fun _ => by kernel_rfl
    have i3 : ∀ w, (Instr.index 102 (.agg #[.int .i64 x0, .int .i64 x1, .int .i64 x2, .int .i64 x3]) (.int .i64 3)).run Tryz.prog w = .ok (.int .i64 x3) w := fun _ => by kernel_rfl
    go_wp2
    go_loopw [38] (fun i wr => ∃ k : Int, (0 ≤ k ∧ k ≤ 4) ∧ i = .int .i64 k ∧ (0 < k → within x0 = true) ∧ (1 < k → within x1 = true) ∧ (2 < k → within x2 = true) ∧ (3 < k → within x3 = true) ∧ wr = w3) (fun i _ => 4 - (intOf i).toNat)
    case atStart => exact ⟨0, ⟨by omega, by omega⟩, rfl, fun h => absurd h (by omega), fun h => absurd h (by omega), fun h => absurd h (by omega), fun h => absurd h (by omega), rfl⟩
    case round =>
      obtain ⟨k, hk, rfl, g0, g1, g2, g3, rfl⟩ := hrel
      have G0 := Lib.hid g0
      have G1 := Lib.hid g1
      have G2 := Lib.hid g2
      have G3 := Lib.hid g3
      clear g0 g1 g2 g3
      rcases (by omega : k = 0 ∨ k = 1 ∨ k = 2 ∨ k = 3 ∨ k = 4) with rfl | rfl | rfl | rfl | rfl
      · by_cases hx : 0 ≤ x0 ∧ x0 ≤ 1099511627776
        · obtain ⟨q1, q2⟩ := hx
          have d1 : decide (x0 < 0) = false := decide_eq_false (by omega)
          have d2 : decide (1099511627776 < x0) = false := decide_eq_false (by omega)
          have HX : Hid (within x0 = true) := Lib.hid (decide_eq_true ⟨q1, q2⟩)
          clear q1 q2
          go_wp2
          go_roundw
          case rel => exact ⟨1, ⟨by omega, by omega⟩, by rfl, (fun _ => HX.out), (fun h => absurd h (by omega)), (fun h => absurd h (by omega)), (fun h => absurd h (by omega)), trivial⟩
          case measure => simp [intOf]
        · have HX : Hid (ans = false) := Lib.hid (HW.out (by rw [HWD.out, show within x0 = false from decide_eq_false hx]; simp))
          have HC := Lib.hid hx
          clear hx
          go_wp2
          all_goals first
            | (exfalso; have := HC.out; omega)
            | (go_ret; exact ⟨by rw [HX.out]; rfl, B3.out.2⟩)
      · by_cases hx : 0 ≤ x1 ∧ x1 ≤ 1099511627776
        · obtain ⟨q1, q2⟩ := hx
          have d1 : decide (x1 < 0) = false := decide_eq_false (by omega)
          have d2 : decide (1099511627776 < x1) = false := decide_eq_false (by omega)
          have HX : Hid (within x1 = true) := Lib.hid (decide_eq_true ⟨q1, q2⟩)
          clear q1 q2
          go_wp2
          go_roundw
          case rel => exact ⟨2, ⟨by omega, by omega⟩, by rfl, (fun _ => G0.out (by omega)), (fun _ => HX.out), (fun h => absurd h (by omega)), (fun h => absurd h (by omega)), trivial⟩
          case measure => simp [intOf]
        · have HX : Hid (ans = false) := Lib.hid (HW.out (by rw [HWD.out, show within x1 = false from decide_eq_false hx]; simp))
          have HC := Lib.hid hx
          clear hx
          go_wp2
          all_goals first
            | (exfalso; have := HC.out; omega)
            | (go_ret; exact ⟨by rw [HX.out]; rfl, B3.out.2⟩)
      · by_cases hx : 0 ≤ x2 ∧ x2 ≤ 1099511627776
        · obtain ⟨q1, q2⟩ := hx
          have d1 : decide (x2 < 0) = false := decide_eq_false (by omega)
          have d2 : decide (1099511627776 < x2) = false := decide_eq_false (by omega)
          have HX : Hid (within x2 = true) := Lib.hid (decide_eq_true ⟨q1, q2⟩)
          clear q1 q2
          go_wp2
          go_roundw
          case rel => exact ⟨3, ⟨by omega, by omega⟩, by rfl, (fun _ => G0.out (by omega)), (fun _ => G1.out (by omega)), (fun _ => HX.out), (fun h => absurd h (by omega)), trivial⟩
          case measure => simp [intOf]
        · have HX : Hid (ans = false) := Lib.hid (HW.out (by rw [HWD.out, show within x2 = false from decide_eq_false hx]; simp))
          have HC := Lib.hid hx
          clear hx
          go_wp2
          all_goals first
            | (exfalso; have := HC.out; omega)
            | (go_ret; exact ⟨by rw [HX.out]; rfl, B3.out.2⟩)
      · by_cases hx : 0 ≤ x3 ∧ x3 ≤ 1099511627776
        · obtain ⟨q1, q2⟩ := hx
          have d1 : decide (x3 < 0) = false := decide_eq_false (by omega)
          have d2 : decide (1099511627776 < x3) = false := decide_eq_false (by omega)
          have HX : Hid (within x3 = true) := Lib.hid (decide_eq_true ⟨q1, q2⟩)
          clear q1 q2
          go_wp2
          go_roundw
          case rel => exact ⟨4, ⟨by omega, by omega⟩, by rfl, (fun _ => G0.out (by omega)), (fun _ => G1.out (by omega)), (fun _ => G2.out (by omega)), (fun _ => HX.out), trivial⟩
          case measure => simp [intOf]
        · have HX : Hid (ans = false) := Lib.hid (HW.out (by rw [HWD.out, show within x3 = false from decide_eq_false hx]; simp))
          have HC := Lib.hid hx
          clear hx
          go_wp2
          all_goals first
            | (exfalso; have := HC.out; omega)
            | (go_ret; exact ⟨by rw [HX.out]; rfl, B3.out.2⟩)
      · have HWT : Hid (wb = true) := Lib.hid (by rw [HWD.out, G0.out (by omega), G1.out (by omega), G2.out (by omega), G3.out (by omega)]; rfl)
        clear i0 i1 i2 i3 G0 G1 G2 G3 HW HWD
        have HF2 : Hid (portsB d.ports = true → ans = lr) := Lib.hid (HF.out HWT.out)
        clear HF HWT
        obtain ⟨w3, rfl⟩ : ∃ w3 : World, w3 = wr := ⟨_, rfl⟩
        go_wp2
        go_loopw [51] (fun i wi => ∃ k : Nat, k ≤ np ∧ i = .int .i64 k ∧ (∀ j, j < k → okP d.ports j = true) ∧ wi = w3) (fun i _ => np - (intOf i).toNat)
        case atStart => exact ⟨0, Nat.zero_le _, rfl, fun _ h => absurd h (by omega), rfl⟩
        case round =>
          obtain ⟨k, hk, rfl, hok, rfl⟩ := hrel
          have HOK := Lib.hid hok
          clear hok
          by_cases hlt : (k : Int) < (np : Int)
          · have hkn : k < d.ports.length := by have := NP.out; omega
            obtain ⟨b, off, rfl, hcell⟩ := ints_cells HCE.out hkn
            have q := hcell _ B3.out.2
            obtain ⟨x, hx⟩ : ∃ x, x = d.ports.getD k 0 := ⟨_, rfl⟩
            rw [← hx] at q
            have HX := Lib.hid hx
            have HNO : Hid (okP d.ports k = false → ans = false) := Lib.hid fun h => HPN.out (portsB_no hkn h)
            clear hcell hx
            by_cases hk0 : k = 0
            · have HE : Hid (okP d.ports k = decide (0 ≤ x ∧ x < 64)) := Lib.hid (by rw [okP_at HX.out (y := 0) (fun h => absurd h (by omega)), decide_eq_true hk0]; simp)
              have HK0 := Lib.hid hk0
              have d4 : decide ((0 : Int) < (k : Int)) = false := decide_eq_false (by omega)
              have d5 : decide (0 < k) = false := decide_eq_false (by omega)
              clear hk0
              by_cases hin : 0 ≤ x ∧ x < 64
              · have HY : Hid (okP d.ports k = true) := Lib.hid (by rw [HE.out]; exact decide_eq_true hin)
                obtain ⟨q1, q2⟩ := hin
                have d1 : decide (x < 0) = false := decide_eq_false (by omega)
                have d2 : decide (64 ≤ x) = false := decide_eq_false (by omega)
                clear q1 q2
                go_wp2
                go_roundw
                case rel => exact ⟨k + 1, by omega, by go_num, fun j hj => (by rw [show j = k by have := HK0.out; omega]; exact HY.out), trivial⟩
                case measure => simp [intOf]; omega
              · have HZ : Hid (ans = false) := Lib.hid (HNO.out (by rw [HE.out]; exact decide_eq_false hin))
                have HC := Lib.hid hin
                clear hin
                go_wp2
                all_goals first
                  | (exfalso; have := HC.out; omega)
                  | (go_ret; exact ⟨by rw [HZ.out]; rfl, B3.out.2⟩)
            · obtain ⟨m, rfl⟩ : ∃ m, k = m + 1 := ⟨k - 1, by omega⟩
              obtain ⟨b', off', he, hcell⟩ := ints_cells HCE.out (show m < d.ports.length by omega)
              injection he with he
              injection he with e1 e2 _
              subst e1 e2
              have q3 := hcell _ B3.out.2
              obtain ⟨y, hy⟩ : ∃ y, y = d.ports.getD m 0 := ⟨_, rfl⟩
              rw [← hy] at q3
              have HE : Hid (okP d.ports (m + 1) = (decide (0 ≤ x ∧ x < 64) && decide (y < x))) := Lib.hid (by rw [okP_at HX.out (y := y) (fun _ => by rw [hy]; rfl)]; simp)
              have hm1 : (0 : Int) ≤ (m : Int) := by omega
              have hm2 : (m : Int) < (np : Int) := by omega
              clear hcell hy hk0
              by_cases hin : (0 ≤ x ∧ x < 64) ∧ y < x
              · have HY : Hid (okP d.ports (m + 1) = true) := Lib.hid (by rw [HE.out, decide_eq_true hin.1, decide_eq_true hin.2]; rfl)
                obtain ⟨⟨q1, q2⟩, q4⟩ := hin
                have d1 : decide (x < 0) = false := decide_eq_false (by omega)
                have d2 : decide (64 ≤ x) = false := decide_eq_false (by omega)
                have d3 : decide (x ≤ y) = false := decide_eq_false (by omega)
                have d4 : decide ((0 : Int) < (m : Int) + 1) = true := decide_eq_true (by omega)
                clear q1 q2 q4
                go_wp2
                go_roundw
                case rel =>
                  refine ⟨m + 1 + 1, by omega, by go_num, fun j hj => ?_, trivial⟩
                  rcases Nat.lt_or_ge j (m + 1) with h1 | h1
                  · exact HOK.out j h1
                  · rw [show j = m + 1 by omega]; exact HY.out
                case measure => simp [intOf]; omega
              · have HZ : Hid (ans = false) := Lib.hid (HNO.out (by
                  rw [HE.out, Bool.and_eq_false_iff]
                  by_cases h1 : 0 ≤ x ∧ x < 64
                  · exact .inr (decide_eq_false fun h => hin ⟨h1, h⟩)
                  · exact .inl (decide_eq_false h1)))
                have HC := Lib.hid hin
                have d4 : decide ((0 : Int) < (m : Int) + 1) = true := decide_eq_true (by omega)
                clear hin
                go_wp2
                all_goals first
                  | (exfalso; have := HC.out; omega)
                  | (go_ret; exact ⟨by rw [HZ.out]; rfl, B3.out.2⟩)
          · have hkn : k = d.ports.length := by have := NP.out; omega
            have HL : Hid (ans = lr) := Lib.hid (HF2.out (portsB_yes (fun j hj => HOK.out j (by omega))))
            clear hkn
            by_cases hv : d.verdict = 2
            · have HT : Hid (lr = true) := Lib.hid (by rw [← HLR.out]; unfold lastR; rw [hv]; rfl)
              have hvb : (d.verdict == 2) = true := by rw [beq_iff_eq]; exact hv
              clear hv
              go_wp2
              go_ret
              exact ⟨by rw [HL.out, HT.out]; rfl, B3.out.2⟩
            · have hvb : (d.verdict == 2) = false := by rw [beq_eq_false_iff_ne]; exact hv
              have HT : Hid (lr = sameT d.tr tr0) := Lib.hid (by rw [← HLR.out]; unfold lastR; rw [hvb]; rfl)
              have SS := Lib.hid (S1.out _ B3.out.2)
              unfold tr0 at SS HT
              generalize sameT d.tr ⟨[], [], [], 0⟩ = sm at *
              clear hv
              go_wp2_with fail
              refine SS.out.mono ?_
              rintro e w4 ⟨rfl, hb⟩
              have B4 := Lib.hid (B3.out.below hb)
              clear hb
              go_wp2
              go_ret
              exact ⟨by rw [HL.out, HT.out]; rfl, B4.out.2⟩
end Go.Proofs.YtamgbfkpblpfiaaGreatDoor
