/-
  Netlists (api.Net) as plain data, and how they are read.
-/
import Derived.Test.YtlahecdpcpejpaaDoorIntsB
import Derived.Test.YtlahecdpcpejpaaDoorNetD
import Derived.Deep.QuietTactic
import Derived.BigQuiet
import Derived.Deep.RegionHeld3
import Derived.Deep.DrawnRows
namespace Go.Proofs.YtlahecdpcpejpaaDoor
open Go.ChangeShapes Go.WideShapes Go.ChangeAt Go.RowKit
set_option linter.unusedVariables false
/-- A slice of elements of size cells, each read by R at its first cell. -/
def Seq {α : Type} (w : World) (size : Nat) (R : World → Nat → Nat → α → Prop) (d : α) (v : Value) (xs : List α) : Prop :=
  ∃ a cap, v = .slice a xs.length cap ∧ xs.length ≤ cap ∧ cap ≤ maxLen ∧ (xs = [] ∨ ∃ b off, a = some ⟨b, off, none⟩ ∧ ∀ j, j < xs.length → R w b (off + j * size) (xs.getD j d))
def TriR (w : World) (b o : Nat) (x : Tri) : Prop := w.cell? ⟨b, o, none⟩ = some (.int .i64 x.1) ∧ w.cell? ⟨b, o + 1, none⟩ = some (.int .i64 x.2.1) ∧ w.cell? ⟨b, o + 2, none⟩ = some (.int .i64 x.2.2)
def RdR (w : World) (b o : Nat) (x : RdD) : Prop := w.cell? ⟨b, o, none⟩ = some (.int .i64 x.1) ∧ ∃ u, w.cell? ⟨b, o + 1, none⟩ = some u ∧ Ints w u x.2
def WrR (w : World) (b o : Nat) (x : WrD) : Prop := w.cell? ⟨b, o, none⟩ = some (.int .i64 x.1) ∧ (∃ u, w.cell? ⟨b, o + 1, none⟩ = some u ∧ Ints w u x.2.1) ∧ ∃ u, w.cell? ⟨b, o + 2, none⟩ = some u ∧ Ints w u x.2.2
def MemR (w : World) (b o : Nat) (x : MemD) : Prop :=
  w.cell? ⟨b, o, none⟩ = some (.int .i64 x.addr) ∧ w.cell? ⟨b, o + 1, none⟩ = some (.int .i64 x.word) ∧ w.cell? ⟨b, o + 2, none⟩ = some (.bool x.any) ∧
  (∃ u, w.cell? ⟨b, o + 3, none⟩ = some u ∧ Seq w 2 RdR rd0 u x.rd) ∧ ∃ u, w.cell? ⟨b, o + 4, none⟩ = some u ∧ Seq w 3 WrR wr0 u x.wr
/-- What is read stays below what a call makes. -/
def Stays {α : Type} (R : World → Nat → Nat → α → Prop) : Prop := ∀ {w w' : World} {b o : Nat} {x : α}, R w b o x → Below w.heap.size w w' → R w' b o x
theorem cell_below {w w' : World} {b o : Nat} {u : Value} (h : w.cell? ⟨b, o, none⟩ = some u) (hb : Below w.heap.size w w') : w'.cell? ⟨b, o, none⟩ = some u :=
  (hb.cell (p := ⟨b, o, none⟩) (World.block_lt_of_cell? w _ h)).trans h
theorem Seq.below {α : Type} {w w' : World} {size : Nat} {R : World → Nat → Nat → α → Prop} {d : α} {v : Value} {xs : List α} (hR : Stays R) (h : Seq w size R d v xs) (hb : Below w.heap.size w w') : Seq w' size R d v xs := by
  obtain ⟨a, cap, rfl, h1, h2, h3⟩ := h
  refine ⟨a, cap, rfl, h1, h2, ?_⟩
  rcases h3 with h3 | ⟨b, off, rfl, hc⟩
  · exact .inl h3
  · exact .inr ⟨b, off, rfl, fun j hj => hR (hc j hj) hb⟩
theorem stays_tri : Stays TriR := fun h hb => ⟨cell_below h.1 hb, cell_below h.2.1 hb, cell_below h.2.2 hb⟩
theorem stays_rd : Stays RdR := fun h hb => by
  obtain ⟨h1, u, h2, h3⟩ := h
  exact ⟨cell_below h1 hb, u, cell_below h2 hb, h3.below hb⟩
theorem stays_wr : Stays WrR := fun h hb => by
  obtain ⟨h1, ⟨u, h2, h3⟩, v, h4, h5⟩ := h
  exact ⟨cell_below h1 hb, ⟨u, cell_below h2 hb, h3.below hb⟩, v, cell_below h4 hb, h5.below hb⟩
theorem stays_mem : Stays MemR := fun h hb => by
  obtain ⟨h1, h2, h3, ⟨u, h4, h5⟩, v, h6, h7⟩ := h
  exact ⟨cell_below h1 hb, cell_below h2 hb, cell_below h3 hb, ⟨u, cell_below h4 hb, h5.below stays_rd hb⟩, v, cell_below h6 hb, h7.below stays_wr hb⟩
theorem Seq.form {α : Type} {w : World} {size : Nat} {R : World → Nat → Nat → α → Prop} {d : α} {v : Value} {xs : List α} (h : Seq w size R d v xs) : ∃ a cap, v = .slice a xs.length cap ∧ xs.length ≤ cap ∧ cap ≤ maxLen := by
  obtain ⟨a, cap, rfl, h1, h2, -⟩ := h; exact ⟨a, cap, rfl, h1, h2⟩
theorem Seq.at_ {α : Type} {w : World} {size : Nat} {R : World → Nat → Nat → α → Prop} {d : α} {v : Value} {xs : List α} (h : Seq w size R d v xs) {j : Nat} (hj : j < xs.length) :
    ∃ b off cap, v = .slice (some ⟨b, off, none⟩) xs.length cap ∧ R w b (off + j * size) (xs.getD j d) := by
  obtain ⟨a, cap, rfl, -, -, h3⟩ := h
  have hne : xs ≠ [] := fun e => by rw [e] at hj; simp at hj
  obtain ⟨b, off, rfl, hc⟩ := h3.resolve_left hne
  exact ⟨b, off, cap, rfl, hc j hj⟩
/-- The netlist's fields, where they lie. -/
structure NetP (w : World) (d : NetD) (vi vl vo vb vc vm va : Value) : Prop where
  inp : Ints w vi d.inp
  lat : Seq w 3 TriR tri0 vl d.lat
  out : Ints w vo d.out
  bad : Ints w vb d.bad
  con : Ints w vc d.con
  mems : Seq w 5 MemR mem0 vm d.mems
  ands : Seq w 3 TriR tri0 va d.ands
theorem NetP.below {w w' : World} {d : NetD} {vi vl vo vb vc vm va : Value} (h : NetP w d vi vl vo vb vc vm va) (hb : Below w.heap.size w w') : NetP w' d vi vl vo vb vc vm va :=
  ⟨h.inp.below hb, h.lat.below stays_tri hb, h.out.below hb, h.bad.below hb, h.con.below hb, h.mems.below stays_mem hb, h.ands.below stays_tri hb⟩
def netV (d : NetD) (vi vl vo vb vc vm va : Value) : Value := .agg #[.int .i64 d.vars, vi, vl, vo, vb, vc, vm, va]
end Go.Proofs.YtlahecdpcpejpaaDoor
/-
  Netlists: Light, walked.
-/
namespace Go.Proofs.YtlahecdpcpejpaaDoor
open Go.ChangeShapes Go.WideShapes Go.ChangeAt Go.RowKit
set_option linter.unusedVariables false
set_option linter.unusedSimpArgs false
attribute [local go_sem ↓] Go.wp_at_zero Go.wp_at_succ
def liR (x : RdD) : Bool := decide (x.2.length ≤ 100 ∧ x.1 ≤ 1099511627776 ∧ -1099511627776 ≤ x.1)
def liW (x : WrD) : Bool := decide (x.2.1.length ≤ 100 ∧ x.2.2.length ≤ 100)
def liMH (m : MemD) : Bool := decide (m.rd.length ≤ 6 ∧ m.wr.length ≤ 6 ∧ m.word ≤ 100)
def liM (m : MemD) : Bool := liMH m && m.rd.all liR && m.wr.all liW
theorem all_no {α : Type} {l : List α} {p : α → Bool} {k : Nat} (d : α) (hk : k < l.length) (h : p (l.getD k d) = false) : l.all p = false := by
  rw [List.all_eq_false]
  exact ⟨_, List.getElem_mem hk, by simpa [List.getD, hk] using h⟩
theorem all_yes {α : Type} {l : List α} {p : α → Bool} (d : α) (h : ∀ j, j < l.length → p (l.getD j d) = true) : l.all p = true := by
  rw [List.all_eq_true]
  intro x hx
  obtain ⟨j, hj, rfl⟩ := List.getElem_of_mem hx
  simpa [List.getD, hj] using h j hj
def liH (d : NetD) : Bool := decide (d.inp.length ≤ 2100 ∧ d.lat.length ≤ 2100 ∧ d.ands.length ≤ 2100 ∧ d.out.length ≤ 1100 ∧ d.bad.length ≤ 1100 ∧ d.con.length ≤ 1100 ∧ d.mems.length ≤ 6)
def lightN (d : NetD) : Bool := liH d && d.mems.all liM
theorem below_new1 (w : World) (a : Obj) : Below w.heap.size w (w.alloc a) := (Below.refl _ _).alloc (Nat.le_refl _) _
theorem box8 {w : World} {cs : Array Value} {T : TypeId} : Blk (w.alloc (.cells cs T)) w.heap.size T cs := Blk.new w T cs
set_option maxHeartbeats 4000000 in
set_option maxRecDepth 100000 in
theorem light_net {w : World} {d : NetD} {vi vl vo vb vc vm va : Value} (h : NetP w d vi vl vo vb vc vm va) :
    Calls Tryd.prog 17 #[netV d vi vl vo vb vc vm va] w fun e w' => e = .returned (.bool (lightN d)) ∧ Below w.heap.size w w' := by
  obtain ⟨ans, hans⟩ : ∃ b, b = lightN d := ⟨_, rfl⟩
  rw [← hans]
  obtain ⟨ai, ci, rfl, -, i1, i2, -⟩ := id h.inp
  obtain ⟨al, cl, rfl, l1, l2⟩ := h.lat.form
  obtain ⟨ao, co, rfl, -, o1, o2, -⟩ := id h.out
  obtain ⟨ab, cb, rfl, -, b1, b2, -⟩ := id h.bad
  obtain ⟨ac, cc, rfl, -, c1, c2, -⟩ := id h.con
  obtain ⟨am, cm, rfl, m1, m2⟩ := h.mems.form
  obtain ⟨aa, ca, rfl, a1, a2⟩ := h.ands.form
  obtain ⟨ni, hni⟩ : ∃ n, n = d.inp.length := ⟨_, rfl⟩
  obtain ⟨nl, hnl⟩ : ∃ n, n = d.lat.length := ⟨_, rfl⟩
  obtain ⟨no, hno⟩ : ∃ n, n = d.out.length := ⟨_, rfl⟩
  obtain ⟨nb, hnb⟩ : ∃ n, n = d.bad.length := ⟨_, rfl⟩
  obtain ⟨nc, hnc⟩ : ∃ n, n = d.con.length := ⟨_, rfl⟩
  obtain ⟨nm, hnm⟩ : ∃ n, n = d.mems.length := ⟨_, rfl⟩
  obtain ⟨na, hna⟩ : ∃ n, n = d.ands.length := ⟨_, rfl⟩
  unfold netV
  rw [← hni, ← hnl, ← hno, ← hnb, ← hnc, ← hnm, ← hna]
  rw [← hni] at i1; rw [← hnl] at l1; rw [← hno] at o1; rw [← hnb] at b1; rw [← hnc] at c1; rw [← hnm] at m1; rw [← hna] at a1
  unfold maxLen at *
  have HA := Lib.hid hans
  have HP := Lib.hid h
  have HN := Lib.hid (And.intro hni (And.intro hnl (And.intro hno (And.intro hnb (And.intro hnc (And.intro hnm hna))))))
  clear hans h hni hnl hno hnb hnc hnm hna
  obtain ⟨w1, hw1⟩ : ∃ w1, w1 = w.alloc (.cells #[.int .i64 d.vars, .slice ai ni ci, .slice al nl cl, .slice ao no co, .slice ab nb cb, .slice ac nc cc, .slice am nm cm, .slice aa na ca] 28) := ⟨_, rfl⟩
  have hA1 : Below w.heap.size w w1 := by rw [hw1]; exact (Below.refl _ _).alloc (Nat.le_refl _) _
  have hbx : Blk w1 w.heap.size 28 #[.int .i64 d.vars, .slice ai ni ci, .slice al nl cl, .slice ao no co, .slice ab nb cb, .slice ac nc cc, .slice am nm cm, .slice aa na ca] := by rw [hw1]; exact Blk.new w _ _
  obtain ⟨bx, hbxe⟩ : ∃ bx, bx = w.heap.size := ⟨_, rfl⟩
  rw [← hbxe] at hbx
  have HC6 : Hid (∀ W, Below w1.heap.size w1 W → W.cell? ⟨bx, 6, none⟩ = some (.slice am nm cm)) := Lib.hid fun W hW => (hbx.below hW hbx.lt).cell 6
  have HW1 := Lib.hid hw1
  have HA1 := Lib.hid hA1
  have HBE := Lib.hid hbxe
  clear hw1 hA1 hbx hbxe
  go_enter Tryd.func17, Tryd.ntmps17
  go_wp2
  all_goals first
    | (have HF : Hid (ans = false) := Lib.hid (by
         obtain ⟨h1, h2, h3, h4, h5, h6, h7⟩ := HN.out
         have : liH d = false := decide_eq_false (by omega)
         rw [HA.out]; unfold lightN; rw [this, Bool.false_and])
       go_ret
       exact ⟨by rw [HF.out]; rfl, (Below.refl _ _).alloc (Nat.le_refl _) _⟩)
    | skip
  rw [← HW1.out, ← HBE.out]
  have HLH : Hid (liH d = true) := Lib.hid (by
    obtain ⟨h1, h2, h3, h4, h5, h6, h7⟩ := HN.out
    exact decide_eq_true (by omega))
  go_loopw [3] (fun i wr => ∃ k : Nat, k ≤ nm ∧ i = .int .i64 k ∧ (∀ j, j < k → liM (d.mems.getD j mem0) = true) ∧ Below w1.heap.size w1 wr) (fun i _ => nm - (intOf i).toNat)
  case atStart => exact ⟨0, Nat.zero_le _, rfl, fun _ h => absurd h (by omega), Below.refl _ _⟩
  case round =>
    obtain ⟨k, hk, rfl, hrel, hB⟩ := hrel
    have c6 := HC6.out wr hB
    have HR := Lib.hid hrel
    clear hrel
    by_cases hlt : (k : Int) < (nm : Int)
    · have hkn : k < d.mems.length := by obtain ⟨h1, h2, h3, h4, h5, h6, h7⟩ := HN.out; omega
      obtain ⟨b, off, cap', he, hmem⟩ := HP.out.mems.at_ hkn
      injection he with e1 e2 e3
      subst e1
      obtain ⟨mm, hmm⟩ : ∃ mm, mm = d.mems.getD k mem0 := ⟨_, rfl⟩
      rw [← hmm] at hmem
      have hB0 := HA1.out.trans (hB.mono HA1.out.size)
      obtain ⟨z0, z1, z2, ⟨u1, z3, hrd⟩, u2, z4, hwr⟩ := stays_mem hmem hB0
      obtain ⟨ra, rc, rfl, r1, r2⟩ := hrd.form
      obtain ⟨wa, wc, rfl, w1', w2'⟩ := hwr.form
      obtain ⟨nr, hnr⟩ : ∃ n, n = mm.rd.length := ⟨_, rfl⟩
      obtain ⟨nw, hnw⟩ : ∃ n, n = mm.wr.length := ⟨_, rfl⟩
      rw [← hnr] at z3 r1
      rw [← hnw] at z4 w1'
      have HRD := Lib.hid hrd
      have HWR := Lib.hid hwr
      have HMM := Lib.hid hmm
      have HNR := Lib.hid hnr
      have HNW := Lib.hid hnw
      have HB0 := Lib.hid hB0
      have HB := Lib.hid hB
      have HKN := Lib.hid hkn
      clear hrd hwr hmm hnr hnw hB0 hB hmem hkn e2 e3
      have HNO : Hid (liM mm = false → ans = false) := Lib.hid (fun h => by
        rw [HA.out]; unfold lightN
        rw [all_no mem0 HKN.out (by rw [← HMM.out]; exact h), Bool.and_false])
      go_wp2
      all_goals first
        | (have HF : Hid (ans = false) := Lib.hid (HNO.out (by
             have : liMH mm = false := decide_eq_false (by have := HNR.out; have := HNW.out; omega)
             unfold liM; rw [this, Bool.false_and, Bool.false_and]))
           try rw [Exit.noGoto_ret]
           go_ret
           exact ⟨by rw [HF.out]; rfl, (HB0.out.alloc HB0.out.size _)⟩)
        | skip
      have HMH : Hid (liMH mm = true) := Lib.hid (decide_eq_true (by have := HNR.out; have := HNW.out; omega))
      go_loop [5] (fun i => ∃ j : Nat, j ≤ nr ∧ i = .int .i64 j ∧ ∀ t, t < j → liR (mm.rd.getD t rd0) = true) (fun i => nr - (intOf i).toNat)
      case atStart => exact ⟨0, Nat.zero_le _, rfl, fun _ h => absurd h (by omega)⟩
      case round =>
        obtain ⟨j, hj, rfl, hrel⟩ := hrel
        have HR2 := Lib.hid hrel
        clear hrel
        by_cases hlt2 : (j : Int) < (nr : Int)
        · have hjn : j < mm.rd.length := by have := HNR.out; omega
          obtain ⟨b2, off2, cap2, he, hone⟩ := HRD.out.at_ hjn
          injection he with e1 e2 e3
          subst e1
          obtain ⟨q0, u3, q1, hin⟩ := hone
          obtain ⟨aa3, cc3, rfl, -, i3, i4, -⟩ := hin
          obtain ⟨y, hy⟩ : ∃ y, y = mm.rd.getD j rd0 := ⟨_, rfl⟩
          rw [← hy] at q0 q1 i3
          obtain ⟨ny, hny⟩ : ∃ n, n = y.2.length := ⟨_, rfl⟩
          obtain ⟨vy, hvy⟩ : ∃ v, v = y.1 := ⟨_, rfl⟩
          rw [← hny] at q1 i3
          rw [← hvy] at q0
          replace q0 := cell_below q0 (below_new1 wr (.cells #[.int .i64 mm.addr, .int .i64 mm.word, .bool mm.any, .slice (some ⟨b2, off2, none⟩) nr rc, .slice wa nw wc] 53))
          replace q1 := cell_below q1 (below_new1 wr (.cells #[.int .i64 mm.addr, .int .i64 mm.word, .bool mm.any, .slice (some ⟨b2, off2, none⟩) nr rc, .slice wa nw wc] 53))
          have HY := Lib.hid hy
          have HNY := Lib.hid hny
          have HVY := Lib.hid hvy
          have HJN := Lib.hid hjn
          clear hy hny hvy hjn e2 e3
          go_wp2
          all_goals first
            | (have HF : Hid (ans = false) := Lib.hid (HNO.out (by
                 have h0 : liR y = false := decide_eq_false (by have := HNY.out; have := HVY.out; omega)
                 unfold liM; rw [all_no rd0 HJN.out (by rw [← HY.out]; exact h0), Bool.and_false, Bool.false_and]))
               repeat rw [Exit.noGoto_ret]
               go_ret
               exact ⟨by rw [HF.out]; rfl, (HB0.out.alloc HB0.out.size _)⟩)
            | (have HT : Hid (liR y = true) := Lib.hid (decide_eq_true (by have := HNY.out; have := HVY.out; omega))
               go_round
               case rel =>
                 refine ⟨j + 1, by omega, by go_num, fun t ht => ?_⟩
                 rcases Nat.lt_or_ge t j with h | h
                 · exact HR2.out t h
                 · rw [show t = j by omega, ← HY.out]; exact HT.out
               case measure => simp [intOf]; omega)
        · have HRA : Hid (mm.rd.all liR = true) := Lib.hid (all_yes rd0 fun t ht => HR2.out t (by have := HNR.out; omega))
          go_wp2
          go_loop [6] (fun i => ∃ j : Nat, j ≤ nw ∧ i = .int .i64 j ∧ ∀ t, t < j → liW (mm.wr.getD t wr0) = true) (fun i => nw - (intOf i).toNat)
          case atStart => exact ⟨0, Nat.zero_le _, rfl, fun _ h => absurd h (by omega)⟩
          case round =>
            obtain ⟨j3, hj3, rfl, hrel⟩ := hrel
            have HR3 := Lib.hid hrel
            clear hrel
            by_cases hlt3 : (j3 : Int) < (nw : Int)
            · have hjn : j3 < mm.wr.length := by have := HNW.out; omega
              obtain ⟨b2, off2, cap2, he, hone⟩ := HWR.out.at_ hjn
              injection he with e1 e2 e3
              subst e1
              obtain ⟨q0, ⟨u3, q1, hin⟩, u4, q2, hin4⟩ := hone
              obtain ⟨aa3, cc3, rfl, -, i3, i4, -⟩ := hin
              obtain ⟨aa4, cc4, rfl, -, i5, i6, -⟩ := hin4
              obtain ⟨y, hy⟩ : ∃ y, y = mm.wr.getD j3 wr0 := ⟨_, rfl⟩
              rw [← hy] at q0 q1 q2 i3 i5
              obtain ⟨ny, hny⟩ : ∃ n, n = y.2.1.length := ⟨_, rfl⟩
              obtain ⟨my, hmy⟩ : ∃ n, n = y.2.2.length := ⟨_, rfl⟩
              rw [← hny] at q1 i3
              rw [← hmy] at q2 i5
              replace q1 := cell_below q1 (below_new1 wr (.cells #[.int .i64 mm.addr, .int .i64 mm.word, .bool mm.any, .slice ra nr rc, .slice (some ⟨b2, off2, none⟩) nw wc] 53))
              replace q2 := cell_below q2 (below_new1 wr (.cells #[.int .i64 mm.addr, .int .i64 mm.word, .bool mm.any, .slice ra nr rc, .slice (some ⟨b2, off2, none⟩) nw wc] 53))
              have HY := Lib.hid hy
              have HNY := Lib.hid hny
              have HMY := Lib.hid hmy
              have HJN := Lib.hid hjn
              clear hy hny hmy hjn e2 e3
              go_wp2
              all_goals first
                | (have HF : Hid (ans = false) := Lib.hid (HNO.out (by
                     have h0 : liW y = false := decide_eq_false (by have := HNY.out; have := HMY.out; omega)
                     unfold liM; rw [all_no wr0 HJN.out (by rw [← HY.out]; exact h0), Bool.and_false]))
                   repeat rw [Exit.noGoto_ret]
                   go_ret
                   exact ⟨by rw [HF.out]; rfl, (HB0.out.alloc HB0.out.size _)⟩)
                | (have HT : Hid (liW y = true) := Lib.hid (decide_eq_true (by have := HNY.out; have := HMY.out; omega))
                   go_round
                   case rel =>
                     refine ⟨j3 + 1, by omega, by go_num, fun t ht => ?_⟩
                     rcases Nat.lt_or_ge t j3 with h | h
                     · exact HR3.out t h
                     · rw [show t = j3 by omega, ← HY.out]; exact HT.out
                   case measure => simp [intOf]; omega)
            · have HWA : Hid (mm.wr.all liW = true) := Lib.hid (all_yes wr0 fun t ht => HR3.out t (by have := HNW.out; omega))
              have HM : Hid (liM mm = true) := Lib.hid (by unfold liM; rw [HMH.out, HRA.out, HWA.out]; rfl)
              go_wp2
              go_roundw
              case rel =>
                refine ⟨k + 1, by omega, by go_num, fun t ht => ?_, HB.out.alloc HB.out.size _⟩
                rcases Nat.lt_or_ge t k with h | h
                · exact HR.out t h
                · rw [show t = k by omega, ← HMM.out]; exact HM.out
              case measure => simp [intOf]; omega
    · have HF : Hid (ans = true) := Lib.hid (by
        obtain ⟨h1, h2, h3, h4, h5, h6, h7⟩ := HN.out
        rw [HA.out]; unfold lightN; rw [HLH.out, Bool.true_and, List.all_eq_true]
        intro x hx
        obtain ⟨j, hj, rfl⟩ := List.getElem_of_mem hx
        have := HR.out j (by omega)
        simpa [List.getD, hj] using this)
      have HBB := Lib.hid (HA1.out.trans (hB.mono HA1.out.size))
      clear hB
      go_wp2
      go_ret
      exact ⟨by rw [HF.out]; rfl, HBB.out⟩
end Go.Proofs.YtlahecdpcpejpaaDoor
/-
  Netlists: what a function that takes one finds; the document's limits, wide.
-/
namespace Go.Proofs.YtlahecdpcpejpaaDoor
open Go.ChangeShapes Go.WideShapes Go.ChangeAt Go.RowKit
set_option linter.unusedVariables false
set_option linter.unusedSimpArgs false
attribute [local go_sem ↓] Go.wp_at_zero Go.wp_at_succ
theorem any_at {α : Type} {l : List α} {p : α → Bool} {k : Nat} (d : α) (hk : k < l.length) (h : p (l.getD k d) = true) : l.any p = true := by
  rw [List.any_eq_true]
  exact ⟨_, List.getElem_mem hk, by simpa [List.getD, hk] using h⟩
theorem any_non {α : Type} {l : List α} {p : α → Bool} {n : Nat} (d : α) (hn : n = l.length) (h : ∀ j, j < n → p (l.getD j d) = false) : l.any p = false := by
  rw [List.any_eq_false]
  intro x hx
  obtain ⟨j, hj, rfl⟩ := List.getElem_of_mem hx
  simpa [List.getD, hj] using h j (by omega)
theorem snoc_no {p : Nat → Bool} {k : Nat} (h : ∀ j, j < k → p j = false) (hk : p k = false) : ∀ j, j < k + 1 → p j = false := fun j hj => by
  rcases Nat.lt_or_ge j k with h1 | h1
  · exact h j h1
  · rw [show j = k by omega]; exact hk
theorem ret_b {a b : Bool} (h : a = b) : Ending.returned (.bool a) = .returned (.bool b) := by rw [h]
structure Lens (d : NetD) (ni nl no nb nc nm na : Nat) : Prop where
  inp : ni = d.inp.length
  lat : nl = d.lat.length
  out : no = d.out.length
  bad : nb = d.bad.length
  con : nc = d.con.length
  mems : nm = d.mems.length
  ands : na = d.ands.length
structure Caps (d : NetD) (ni nl no nb nc nm na ci cl co cb cc cm ca : Nat) : Prop where
  inp : ni ≤ 2100 ∧ ni ≤ ci ∧ ci ≤ 9223372036854775807
  lat : nl ≤ 2100 ∧ nl ≤ cl ∧ cl ≤ 9223372036854775807
  out : no ≤ 1100 ∧ no ≤ co ∧ co ≤ 9223372036854775807
  bad : nb ≤ 1100 ∧ nb ≤ cb ∧ cb ≤ 9223372036854775807
  con : nc ≤ 1100 ∧ nc ≤ cc ∧ cc ≤ 9223372036854775807
  mems : nm ≤ 6 ∧ nm ≤ cm ∧ cm ≤ 9223372036854775807
  ands : na ≤ 2100 ∧ na ≤ ca ∧ ca ≤ 9223372036854775807
theorem NetP.open_ {w : World} {d : NetD} {vi vl vo vb vc vm va : Value} (h : NetP w d vi vl vo vb vc vm va) (hl : liH d = true) :
    ∃ ai ci ni al cl nl ao co no ab cb nb ac cc nc am cm nm aa ca na, vi = .slice ai ni ci ∧ vl = .slice al nl cl ∧ vo = .slice ao no co ∧ vb = .slice ab nb cb ∧ vc = .slice ac nc cc ∧ vm = .slice am nm cm ∧ va = .slice aa na ca ∧
      Hid (Lens d ni nl no nb nc nm na) ∧ Caps d ni nl no nb nc nm na ci cl co cb cc cm ca := by
  have hl' := of_decide_eq_true hl
  obtain ⟨h1, h2, h3, h4, h5, h6, h7⟩ := hl'
  obtain ⟨ai, ci, rfl, -, i1, i2, -⟩ := id h.inp
  obtain ⟨al, cl, rfl, l1, l2⟩ := h.lat.form
  obtain ⟨ao, co, rfl, -, o1, o2, -⟩ := id h.out
  obtain ⟨ab, cb, rfl, -, b1, b2, -⟩ := id h.bad
  obtain ⟨ac, cc, rfl, -, c1, c2, -⟩ := id h.con
  obtain ⟨am, cm, rfl, m1, m2⟩ := h.mems.form
  obtain ⟨aa, ca, rfl, a1, a2⟩ := h.ands.form
  unfold maxLen at *
  exact ⟨_, _, _, _, _, _, _, _, _, _, _, _, _, _, _, _, _, _, _, _, _, rfl, rfl, rfl, rfl, rfl, rfl, rfl, Lib.hid ⟨rfl, rfl, rfl, rfl, rfl, rfl, rfl⟩,
    ⟨⟨h1, i1, i2⟩, ⟨h2, l1, l2⟩, ⟨h4, o1, o2⟩, ⟨h5, b1, b2⟩, ⟨h6, c1, c2⟩, ⟨h7, m1, m2⟩, ⟨h3, a1, a2⟩⟩⟩
/-- The netlist in a block. -/
def NBox (W : World) (g : Nat) (d : NetD) (vi vl vo vb vc vm va : Value) : Prop := Blk W g 28 #[.int .i64 d.vars, vi, vl, vo, vb, vc, vm, va]
theorem NBox.new (w : World) (d : NetD) (vi vl vo vb vc vm va : Value) : NBox (w.alloc (.cells #[.int .i64 d.vars, vi, vl, vo, vb, vc, vm, va] 28)) w.heap.size d vi vl vo vb vc vm va := Blk.new w _ _
theorem NBox.later {w W : World} {g : Nat} {d : NetD} {vi vl vo vb vc vm va : Value} (h : NBox w g d vi vl vo vb vc vm va) (hb : Below w.heap.size w W) : NBox W g d vi vl vo vb vc vm va := Blk.below h hb h.lt
section
variable {W : World} {g : Nat} {d : NetD} {vi vl vo vb vc vm va : Value} (h : NBox W g d vi vl vo vb vc vm va)
include h
theorem NBox.c0 : W.cell? ⟨g, 0, none⟩ = some (.int .i64 d.vars) := h.cell 0
theorem NBox.c1 : W.cell? ⟨g, 1, none⟩ = some vi := h.cell 1
theorem NBox.c2 : W.cell? ⟨g, 2, none⟩ = some vl := h.cell 2
theorem NBox.c3 : W.cell? ⟨g, 3, none⟩ = some vo := h.cell 3
theorem NBox.c4 : W.cell? ⟨g, 4, none⟩ = some vb := h.cell 4
theorem NBox.c5 : W.cell? ⟨g, 5, none⟩ = some vc := h.cell 5
theorem NBox.c6 : W.cell? ⟨g, 6, none⟩ = some vm := h.cell 6
theorem NBox.c7 : W.cell? ⟨g, 7, none⟩ = some va := h.cell 7
end
/-- The slices' lengths of a memory's two lists of ports. -/
theorem mem_form {w : World} {b o : Nat} {x : MemD} (h : MemR w b o x) : ∃ ra rc nr wa wc nw, w.cell? ⟨b, o + 3, none⟩ = some (.slice ra nr rc) ∧ w.cell? ⟨b, o + 4, none⟩ = some (.slice wa nw wc) ∧ nr = x.rd.length ∧ nw = x.wr.length ∧ nr ≤ rc ∧ rc ≤ maxLen ∧ nw ≤ wc ∧ wc ≤ maxLen := by
  obtain ⟨-, -, -, ⟨u, h1, h2⟩, v, h3, h4⟩ := h
  obtain ⟨ra, rc, rfl, r1, r2⟩ := h2.form
  obtain ⟨wa, wc, rfl, w1, w2⟩ := h4.form
  exact ⟨ra, rc, _, wa, wc, _, h1, h3, rfl, rfl, r1, r2, w1, w2⟩
set_option maxHeartbeats 4000000 in
set_option maxRecDepth 100000 in
theorem r05_limits {w : World} {d : NetD} {vi vl vo vb vc vm va : Value} (h : NetP w d vi vl vo vb vc vm va) (hl : liH d = true) :
    Calls Tryd.prog 37 #[netV d vi vl vo vb vc vm va] w fun e w' => e = .returned (.bool (limitsN d)) ∧ Below w.heap.size w w' := by
  obtain ⟨ans, hans⟩ : ∃ b, b = limitsN d := ⟨_, rfl⟩
  rw [← hans]
  obtain ⟨ai, ci, ni, al, cl, nl, ao, co, no, ab, cb, nb, ac, cc, nc, am, cm, nm, aa, ca, na, rfl, rfl, rfl, rfl, rfl, rfl, rfl, HN, HC⟩ := h.open_ hl
  obtain ⟨⟨i1, i2, i3⟩, ⟨l1, l2, l3⟩, ⟨o1, o2, o3⟩, ⟨b1, b2, b3⟩, ⟨c1, c2, c3⟩, ⟨m1, m2, m3⟩, ⟨a1, a2, a3⟩⟩ := HC
  unfold netV
  have HA := Lib.hid hans
  have HP := Lib.hid h
  have HB1 : Hid (Below w.heap.size w (w.alloc (.cells #[.int .i64 d.vars, .slice ai ni ci, .slice al nl cl, .slice ao no co, .slice ab nb cb, .slice ac nc cc, .slice am nm cm, .slice aa na ca] 28))) := Lib.hid (below_new1 w _)
  clear hans h hl
  go_enter Tryd.func37, Tryd.ntmps37
  go_wp2
  all_goals first
    | (have HF : Hid (ans = true) := Lib.hid (by
         have e1 := HN.out.out; have e2 := HN.out.bad; have e3 := HN.out.con; have e4 := HN.out.mems
         have : limH d = true := decide_eq_true (by omega)
         rw [HA.out]; unfold limitsN; rw [this, Bool.true_or, Bool.true_or])
       go_ret
       exact ⟨by rw [HF.out]; rfl, HB1.out⟩)
    | skip
  have HLH : Hid (limH d = false) := Lib.hid (by
    have e1 := HN.out.out; have e2 := HN.out.bad; have e3 := HN.out.con; have e4 := HN.out.mems
    exact decide_eq_false (by omega))
  go_loop [3] (fun i => ∃ k : Nat, k ≤ nm ∧ i = .int .i64 k ∧ (∀ j, j < k → limM (d.mems.getD j mem0) = false)) (fun i => nm - (intOf i).toNat)
  case atStart => exact ⟨0, Nat.zero_le _, rfl, fun _ h => absurd h (by omega)⟩
  case round =>
    obtain ⟨k, hk, rfl, hrel⟩ := hrel
    have HR := Lib.hid hrel
    clear hrel
    by_cases hlt : (k : Int) < (nm : Int)
    · have hkn : k < d.mems.length := by have := HN.out.mems; omega
      obtain ⟨b, off, cap', he, hmem⟩ := HP.out.mems.at_ hkn
      injection he with e1 e2 e3
      subst e1
      obtain ⟨mm, hmm⟩ : ∃ mm, mm = d.mems.getD k mem0 := ⟨_, rfl⟩
      rw [← hmm] at hmem
      obtain ⟨ra, rc, nr, wa, wc, nw, z3, z4, hnr, hnw, r1, r2, q1, q2⟩ := mem_form hmem
      replace z3 := cell_below z3 HB1.out
      replace z4 := cell_below z4 HB1.out
      unfold maxLen at r2 q2
      have HMM := Lib.hid hmm
      have HNR := Lib.hid hnr
      have HNW := Lib.hid hnw
      have HKN := Lib.hid hkn
      clear hmm hnr hnw hkn hmem e2 e3
      go_wp2
      all_goals first
        | (have HF : Hid (ans = true) := Lib.hid (by
             have : limM mm = true := decide_eq_true (by have := HNR.out; have := HNW.out; omega)
             rw [HA.out]; unfold limitsN
             rw [any_at mem0 HKN.out (by rw [← HMM.out]; exact this), Bool.or_true, Bool.true_or])
           repeat rw [Exit.noGoto_ret]
           go_ret
           exact ⟨by rw [HF.out]; rfl, HB1.out⟩)
        | (have HT : Hid (limM mm = false) := Lib.hid (decide_eq_false (by have := HNR.out; have := HNW.out; omega))
           go_round
           case rel => exact ⟨k + 1, by omega, by go_num, snoc_no HR.out (by rw [← HMM.out]; exact HT.out)⟩
           case measure => simp [intOf]; omega)
    · have HF : Hid (ans = limT d) := Lib.hid (by
        rw [HA.out]; unfold limitsN
        rw [HLH.out, any_non mem0 (n := k) (by have := HN.out.mems; omega) HR.out, Bool.false_or, Bool.false_or])
      go_wp2
      all_goals
        go_ret
        refine ⟨?_, HB1.out⟩
        rw [HF.out]
        first
          | (have hT : limT d = true := decide_eq_true (by have e1 := HN.out.inp; have e2 := HN.out.lat; have e3 := HN.out.ands; omega)
             rw [hT]; rfl)
          | (refine Eq.trans (b := Ending.returned (.bool (decide (2000 < (ni : Int)) || decide (2000 < (nl : Int)) || decide (2000 < (na : Int))))) rfl (ret_b ?_)
             have e1 := HN.out.inp; have e2 := HN.out.lat; have e3 := HN.out.ands
             unfold limT
             rw [← Bool.decide_or, ← Bool.decide_or]
             exact decide_eq_decide.2 (by omega))
end Go.Proofs.YtlahecdpcpejpaaDoor
