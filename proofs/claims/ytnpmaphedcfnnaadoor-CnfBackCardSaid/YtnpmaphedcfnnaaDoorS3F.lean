/-
  The document's parser.
-/
import Derived.Test.YtnpmaphedcfnnaaDoorS3C
import Derived.Test.YtnpmaphedcfnnaaDoorCnfP
namespace Go.Proofs.YtnpmaphedcfnnaaDoor
open Go.ChangeShapes Go.WideShapes Go.ChangeAt Go.RowKit
set_option linter.unusedVariables false
def LitU (w : World) (a b : Nat) (l : List UInt8) (o : Except Wrong (Int × Nat)) (e : Ending) (w' : World) : Prop :=
  ∃ n st', e = .returned (.int .i64 n) ∧ RS w' a b l st' ∧ Chg (AB a b) w w' ∧ LRel o n st'
theorem lit3_all {w : World} {a b : Nat} {l : List UInt8} {st : Except Wrong Nat} (h : RS w a b l st) (vars : Nat) (hv : vars ≤ 65536) : Calls Tryd.prog 57 #[.pointer (some ⟨b, 0, none⟩), .int .i64 (vars : Int)] w (LitU w a b l (litS vars l st)) := by
  have key : ∀ o, (∀ e w', LitR w a b l o e w' → LitU w a b l o e w') := by
    intro o e w' ⟨hc, hm⟩
    match o, hm with
    | .ok (n, m), ⟨h1, h2⟩ => exact ⟨n, _, h1, h2, hc, rfl, rfl⟩
    | .error x, ⟨⟨n, h1⟩, h2⟩ => exact ⟨n, _, h1, h2, hc, rfl⟩
  match st, h with
  | .ok k, h => exact (lit3_ h vars hv _ rfl).mono (key _)
  | .error x, h => exact (lit3_was h vars).mono (key _)
def URel (o : Except Wrong (Nat × Nat)) (n : Nat) (st : Except Wrong Nat) : Prop := match o with
  | .ok (v, m) => n = v ∧ st = .ok m
  | .error x => n = 0 ∧ st = .error x
def UpU (w : World) (a b : Nat) (l : List UInt8) (o : Except Wrong (Nat × Nat)) (e : Ending) (w' : World) : Prop :=
  ∃ (n : Nat) (st' : Except Wrong Nat), e = .returned (.int .i64 (n : Int)) ∧ RS w' a b l st' ∧ Chg (AB a b) w w' ∧ n ≤ 65536 ∧ URel o n st'
theorem upto3_all {w : World} {a b : Nat} {l : List UInt8} {st : Except Wrong Nat} (h : RS w a b l st) : Calls Tryd.prog 55 #[.pointer (some ⟨b, 0, none⟩)] w (UpU w a b l (uptoS l st)) := by
  refine (upto3_ h).mono ?_
  intro e w' ⟨hc, hm⟩
  cases ho : uptoS l st with
  | ok q =>
    obtain ⟨n, m⟩ := q
    rw [ho] at hm
    refine ⟨n, _, hm.1, hm.2, hc, ?_, rfl, rfl⟩
    match st, ho with
    | .ok k, ho => exact (uptoF_ok ho).1
  | error x =>
    rw [ho] at hm
    exact ⟨0, _, hm.1, hm.2, hc, by omega, rfl, rfl⟩
/-- The start of the loop, plain. -/
theorem relO_start {l : List UInt8} {vars many : Nat} {st1 st2 : Except Wrong Nat} (h1 : URel (uptoS l (.ok 6)) vars st1) (h2 : URel (uptoS l (wantS [32] l st1)) many st2) : RelO vars many l (formF l 6) (wantS [10] l st2) 0 [] := by
  rw [formF_eq]
  have h1 : URel (uptoF l 6) vars st1 := h1
  cases hu : uptoF l 6 with
  | error x =>
    rw [hu] at h1
    obtain ⟨rfl, rfl⟩ := h1
    obtain ⟨rfl, rfl⟩ : many = 0 ∧ st2 = .error x := h2
    rfl
  | ok q =>
    obtain ⟨vars', e1⟩ := q
    rw [hu] at h1
    obtain ⟨rfl, rfl⟩ := h1
    have h2 : URel (uptoS l (wantE [32] l e1)) many st2 := h2
    simp only
    cases hw : wantE [32] l e1 with
    | error x =>
      rw [hw] at h2
      obtain ⟨rfl, rfl⟩ : many = 0 ∧ st2 = .error x := h2
      rfl
    | ok m1 =>
      rw [hw] at h2
      have h2 : URel (uptoF l m1) many st2 := h2
      simp only
      cases hu2 : uptoF l m1 with
      | error x =>
        rw [hu2] at h2
        obtain ⟨rfl, rfl⟩ := h2
        rfl
      | ok q2 =>
        obtain ⟨many', e2⟩ := q2
        rw [hu2] at h2
        obtain ⟨rfl, rfl⟩ := h2
        simp only
        show RelO vars many l _ (wantE [10] l e2) 0 []
        cases hw2 : wantE [10] l e2 with
        | error x => rfl
        | ok m2 => rfl
def RPost (w : World) (o : ResF) (e : Ending) (w' : World) : Prop := Below w.heap.size w w' ∧ match o with
  | .ok (n, L) => ∃ v, e = .returned (.tuple #[.agg #[.int .i64 (n : Int), v], .int .i64 0, .int .i64 0]) ∧ IntsS w' v L
  | .error (f, p) => e = .returned (.tuple #[.agg #[.int .i64 0, .slice none 0 0], .int .i64 (p : Int), .int .i64 (f : Int)])
theorem rpost_err {w w' : World} {o : ResF} {f p : Nat} {x : Value} (ho : o = .error (f, p)) (hx : x = .tuple #[.agg #[.int .i64 0, .slice none 0 0], .int .i64 (p : Int), .int .i64 (f : Int)]) (hb : Below w.heap.size w w') : RPost w o (.returned x) w' := by
  subst ho hx
  exact ⟨hb, rfl⟩
theorem rpost_ok {w w' : World} {o : ResF} {n : Nat} {L : List (List Int)} {v x : Value} (ho : o = .ok (n, L)) (hx : x = .tuple #[.agg #[.int .i64 (n : Int), v], .int .i64 0, .int .i64 0]) (hb : Below w.heap.size w w') (hi : IntsS w' v L) : RPost w o (.returned x) w' := by
  subst ho hx
  exact ⟨hb, _, rfl, hi⟩
theorem r3_new {w : World} {v : Value} {l : List UInt8} (h : By w v l) (hl : l.length ≤ 100000) {wx : World} {r : Nat} (hr : w.heap.size ≤ r) (hb : Below w.heap.size w wx) (hB : Blk wx r 97 #[v, .int .i64 ((0 : Nat) : Int)]) : R3At wx r l 0 := by
  refine ⟨v, hB, h.below stays_by hb, Nat.zero_le _, hl, ?_⟩
  rcases List.eq_nil_or_concat l with e | ⟨_, _, e⟩
  · exact .inl e
  · refine .inr fun g hg => ?_
    have hlt : 0 < l.length := by rw [e]; simp
    obtain ⟨b, off, cap, rfl, hc⟩ := h.at_ hlt
    unfold ByR at hc
    have := World.block_lt_of_cell? w _ hc
    simp [Value.ownBlock] at hg
    subst hg
    exact Nat.lt_of_lt_of_le this hr
def mS (w : World) (a b n : Nat) : Nat := if intOf ((w.cell? ⟨b, 1, none⟩).getD (.int .i64 1)) = 0 then n + 1 - rdrK w a else 0
theorem R3At.rdrK {w : World} {r : Nat} {l : List UInt8} {k : Nat} (h : R3At w r l k) : rdrK w r = k := by
  obtain ⟨v, hb, -⟩ := h
  unfold Go.Proofs.YtnpmaphedcfnnaaDoor.rdrK
  rw [hb.cell 1]
  exact Int.toNat_natCast k
theorem RS.mS_ok {w : World} {a b n : Nat} {l : List UInt8} {k : Nat} (h : RS w a b l (.ok k)) : mS w a b n = n + 1 - k := by
  unfold mS
  rw [h.cellsB.2, h.1.rdrK]
  rfl
theorem RS.mS_err {w : World} {a b n : Nat} {l : List UInt8} {x : Wrong} (h : RS w a b l (.error x)) : mS w a b n = 0 := by
  obtain ⟨f, p⟩ := x
  have h0 := h.2.1
  unfold mS
  rw [h.cellsE.2.1]
  exact if_neg (show ¬ ((f : Int) = 0) by omega)
theorem cell_far {w : World} {p q : Addr} {u : Value} (h : q.block ≠ p.block) : (w.setCell p u).cell? q = w.cell? q := World.cell?_of_block (w := w) (Below.heap_setCell w p u q.block h)
theorem keep_b {w : World} {z b : Nat} {u v x1 x2 : Value} (hne : b ≠ z) (h1 : w.cell? ⟨b, 1, none⟩ = some x1) (h2 : w.cell? ⟨b, 2, none⟩ = some x2) : ((w.setCell ⟨z, 0, none⟩ u).setCell ⟨z, 1, none⟩ v).cell? ⟨b, 1, none⟩ = some x1 ∧ ((w.setCell ⟨z, 0, none⟩ u).setCell ⟨z, 1, none⟩ v).cell? ⟨b, 2, none⟩ = some x2 := by
  constructor
  · rw [cell_far hne, cell_far hne]; exact h1
  · rw [cell_far hne, cell_far hne]; exact h2
theorem keep_bd {w : World} {z b : Nat} {u v x1 x2 : Value} (hne : b ≠ z) (h1 : w.cell? ⟨b, 1, none⟩ = some x1) (h2 : w.cell? ⟨b, 2, none⟩ = some x2) : ((w.setCell ⟨z, 0, none⟩ u).setCell ⟨z, 1, none⟩ v).drew.cell? ⟨b, 1, none⟩ = some x1 ∧ ((w.setCell ⟨z, 0, none⟩ u).setCell ⟨z, 1, none⟩ v).drew.cell? ⟨b, 2, none⟩ = some x2 := keep_b hne h1 h2
theorem CRow.chgS {B : Nat} {wr wx : World} {out : Value} {cs : List Int} {S : Nat → Prop} (h : CRow B wr out cs) (hc : Chg S wr wx) (hS : ∀ g, S g → g < B) : CRow B wx out cs :=
  ⟨h.1.chg hc (fun g hg e => by have := h.2 g hg; have := hS g e; omega), h.2⟩
theorem lrel_lt {vars : Nat} {l : List UInt8} {e : Nat} {n : Int} {st : Except Wrong Nat} (h : LRel (litS vars l (wantS [32] l (.ok e))) n st) {e2 : Nat} (h2 : st = .ok e2) : e < e2 := by
  subst h2
  have hw : wantS [32] l (.ok e) = wantE [32] l e := rfl
  rw [hw] at h
  cases hw : wantE [32] l e with
  | error x =>
    rw [hw] at h
    have h : (Except.ok e2 : Except Wrong Nat) = .error x := h
    cases h
  | ok m =>
    rw [hw] at h
    have hm := wantE_ok hw
    rw [List.length_singleton] at hm
    have h : LRel (litF vars l m) n (.ok e2) := h
    cases hl : litF vars l m with
    | error x =>
      rw [hl] at h
      have h : (Except.ok e2 : Except Wrong Nat) = .error x := h
      cases h
    | ok q =>
      obtain ⟨v, k⟩ := q
      have := litF_ok hl
      rw [hl] at h
      obtain ⟨-, h⟩ := h
      injection h with h
      omega
theorem lift_z {z : Nat} {S : Nat → Prop} {w wa wb : World} (h1 : Below z w wa) (hr : ∀ i, S i → z ≤ i) (hz : z ≤ wa.heap.size) (hc : Chg S wa wb) : Below z w wb :=
  h1.trans (hc.below hz hr)
set_option maxHeartbeats 4000000 in
set_option maxRecDepth 100000 in
theorem r18_Parse {w : World} {v : Value} {l : List UInt8} (h : By w v l) (hl : l.length ≤ 100000) (o : ResF) (ho : parseF l = o) : Calls Tryd.prog 28 #[v] w (RPost w o) := by
  obtain ⟨A, cap, hv, -, -⟩ := h.form
  have HV := Lib.hid hv
  have HY := Lib.hid h
  have HO := Lib.hid ho
  have HW := Lib.hid (fun wx r (hr : w.heap.size ≤ r) (hb : Below w.heap.size w wx) (hB : Blk wx r 97 #[v, .int .i64 ((0 : Nat) : Int)]) => r3_Want (r3_new h hl hr hb hB) ⟨#[112, 32, 99, 110, 102, 32]⟩ (by decide) _ rfl)
  subst hv
  clear h ho
  go_enter Tryd.func28, Tryd.ntmps28
  go_wp2_with fail
  have hb3 : Below w.heap.size w (((w.alloc (.cells #[.int .i64 0, .slice none 0 0] 31)).alloc (.cells #[.slice A l.length cap, .int .i64 0] 97)).alloc (.cells #[.pointer (some ⟨w.heap.size + 1, 0, none⟩), .int .i64 0, .int .i64 0] 99)) := (((Below.refl _ w).alloc (Nat.le_refl _) _).alloc (by simp) _).alloc (by simp; omega) _
  have hz3 : Blk (((w.alloc (.cells #[.int .i64 0, .slice none 0 0] 31)).alloc (.cells #[.slice A l.length cap, .int .i64 0] 97)).alloc (.cells #[.pointer (some ⟨w.heap.size + 1, 0, none⟩), .int .i64 0, .int .i64 0] 99)) w.heap.size 31 #[.int .i64 0, .slice none 0 0] := ((Blk.new w 31 _).alloc _).alloc _
  have ha3 : Blk (((w.alloc (.cells #[.int .i64 0, .slice none 0 0] 31)).alloc (.cells #[.slice A l.length cap, .int .i64 0] 97)).alloc (.cells #[.pointer (some ⟨w.heap.size + 1, 0, none⟩), .int .i64 0, .int .i64 0] 99)) (w.heap.size + 1) 97 #[.slice A l.length cap, .int .i64 ((0 : Nat) : Int)] := by
    have h := (Blk.new (w.alloc (.cells #[.int .i64 0, .slice none 0 0] 31)) 97 #[.slice A l.length cap, .int .i64 0]).alloc (.cells #[.pointer (some ⟨w.heap.size + 1, 0, none⟩), .int .i64 0, .int .i64 0] 99)
    simpa using h
  have hbb3 : Blk (((w.alloc (.cells #[.int .i64 0, .slice none 0 0] 31)).alloc (.cells #[.slice A l.length cap, .int .i64 0] 97)).alloc (.cells #[.pointer (some ⟨w.heap.size + 1, 0, none⟩), .int .i64 0, .int .i64 0] 99)) (w.heap.size + 1 + 1) 99 #[.pointer (some ⟨w.heap.size + 1, 0, none⟩), .int .i64 0, .int .i64 0] := by
    have h := Blk.new ((w.alloc (.cells #[.int .i64 0, .slice none 0 0] 31)).alloc (.cells #[.slice A l.length cap, .int .i64 0] 97)) 99 #[.pointer (some ⟨w.heap.size + 1, 0, none⟩), .int .i64 0, .int .i64 0]
    simpa using h
  generalize (((w.alloc (.cells #[.int .i64 0, .slice none 0 0] 31)).alloc (.cells #[.slice A l.length cap, .int .i64 0] 97)).alloc (.cells #[.pointer (some ⟨w.heap.size + 1, 0, none⟩), .int .i64 0, .int .i64 0] 99)) = w3 at *
  have HWW := Lib.hid (HW.out w3 (w.heap.size + 1) (by omega) hb3 ha3)
  have hsz3 : w.heap.size + 1 + 1 < w3.heap.size := hbb3.lt
  generalize hbq : w.heap.size + 1 + 1 = b at *
  generalize haq : w.heap.size + 1 = a at *
  generalize hzq : w.heap.size = z at *
  have hza : z < a := by omega
  have hab : a < b := by omega
  have HZQ := Lib.hid hzq
  have HB3 := Lib.hid hb3
  have HZ3 := Lib.hid hz3
  have HA3 := Lib.hid ha3
  have HBB3 := Lib.hid hbb3
  have hb0 : w3.cell? ⟨b, 0, none⟩ = some (.pointer (some ⟨a, 0, none⟩)) := hbb3.cell 0
  clear HW hb3 hz3 ha3 hbb3 hzq haq hbq
  have ho := HO.out
  unfold parseF at ho
  cases hw : wantF headB l 0 with
  | some x =>
    obtain ⟨fx, px⟩ := x
    have hf := wantG_err hw
    have hfn : ((fx : Int) != 0) = true := by rw [bne_iff_ne]; omega
    rw [hw] at ho
    have hw' : wantF [112, 32, 99, 110, 102, 32] l 0 = some (fx, px) := hw
    rw [hw'] at HWW
    have HOO := Lib.hid ho.symm
    have HW2 := HWW
    clear HWW hw hw' ho hf
    refine HW2.out.mono ?_
    rintro e w4 ⟨rfl, hs4, hc4⟩
    have hz := HZ3.out.chg hc4 (fun e => by omega)
    have y0 : w4.cell? ⟨z, 0, none⟩ = some (.int .i64 0) := hz.cell 0
    have y1 : w4.cell? ⟨z, 1, none⟩ = some (.slice none 0 0) := hz.cell 1
    have f0 : w4.frozen? ⟨z, 0, none⟩ = false := hz.frozen 0
    have f1 : w4.frozen? ⟨z, 1, none⟩ = false := hz.frozen 1
    have HB4 := Lib.hid (lift_z HB3.out (fun i hi => by omega) (by omega) hc4)
    have HZ4 := Lib.hid hz
    clear hs4 hc4 hz
    go_wp2
    have hE := (HZ4.out.set_ 0 (.int .i64 0)).set_ 1 (.slice none 0 0)
    have e0 := hE.cell 0
    have e1 := hE.cell 1
    simp at e0 e1
    refine bodyPost_ret (v := .tuple #[.agg #[.int .i64 0, .slice none 0 0], .int .i64 0, .int .i64 3]) (by simp [results, Tryd.results28, go_sem, e0, e1]) rfl ?_
    refine rpost_err HOO.out rfl ?_
    rw [HZQ.out]
    exact (HB4.out.setCell (p := ⟨z, 0, none⟩) (Nat.le_refl _) _).setCell (p := ⟨z, 1, none⟩) (Nat.le_refl _) _
  | none =>
    rw [hw] at ho
    have hw' : wantF [112, 32, 99, 110, 102, 32] l 0 = none := hw
    rw [hw'] at HWW
    have HO2 := Lib.hid ho
    have HW2 := HWW
    clear HWW hw hw' ho
    refine HW2.out.mono ?_
    rintro e w4 ⟨rfl, hs4, hc4⟩
    have hrs4 : RS w4 a b l (.ok 6) := ⟨hs4, HBB3.out.chg hc4 (fun e => by omega), hab⟩
    have HZ4 := Lib.hid (HZ3.out.chg hc4 (fun e => by omega))
    have HB4 := Lib.hid (lift_z HB3.out (fun i hi => by omega) (by omega) hc4)
    have hsz4 : b < w4.heap.size := Nat.lt_of_lt_of_le hsz3 hc4.size
    have HU := Lib.hid (upto3_all hrs4)
    clear hs4 hc4 hrs4
    go_wp2_with fail
    refine HU.out.mono ?_
    rintro e w5 ⟨vars, st1, rfl, hrs5, hc5, hvars, hu1⟩
    have HU1 := Lib.hid hu1
    have hsz5 : b < w5.heap.size := Nat.lt_of_lt_of_le hsz4 hc5.size
    have HZ5 := Lib.hid (HZ4.out.chg hc5 (fun e => by rcases e with e | e <;> omega))
    have HB5 := Lib.hid (lift_z HB4.out (fun i hi => by rcases hi with hi | hi <;> omega) (by omega) hc5)
    have HRS5 := Lib.hid hrs5
    clear hu1 hc5 hrs5
    go_wp2_with fail
    have hb6 := below_new1 w5 (.cells #[.int .i64 (vars : Int), .slice none 0 0] 31)
    have hrs6 := HRS5.out.below hb6
    have HZ6 := Lib.hid (HZ5.out.below hb6 (by omega))
    have HB6 := Lib.hid (HB5.out.trans (hb6.mono (by omega)))
    have hg6 : GAt (w5.alloc (.cells #[.int .i64 (vars : Int), .slice none 0 0] 31)) (w5.heap.size + 1) w5.heap.size vars [] := ⟨.slice none 0 0, [], Blk.new w5 31 _, World.ownsRow_nil _ _ _ _, fun g hg => by simp [Value.ownBlock] at hg, Nat.lt_succ_self _, Cls.nil _ _⟩
    have hsz6 : w5.heap.size + 1 ≤ (w5.alloc (.cells #[.int .i64 (vars : Int), .slice none 0 0] 31)).heap.size := by simp
    have HG6 := Lib.hid hg6
    generalize w5.alloc (.cells #[.int .i64 (vars : Int), .slice none 0 0] 31) = w6 at *
    have HW := Lib.hid (want3_ hrs6 ⟨#[32]⟩ (by decide))
    clear hb6 hg6 hrs6
    generalize hoq : w5.heap.size = oo at *
    clear hoq
    refine HW.out.mono ?_
    rintro e w7 ⟨rfl, hrs7, hc7⟩
    have hsz7 : oo + 1 ≤ w7.heap.size := Nat.le_trans hsz6 hc7.size
    have HZ7 := Lib.hid (HZ6.out.chg hc7 (fun e => by rcases e with e | e <;> omega))
    have HB7 := Lib.hid (lift_z HB6.out (fun i hi => by rcases hi with hi | hi <;> omega) (by omega) hc7)
    have HG7 := Lib.hid (HG6.out.chg hc7 (by omega) (by omega))
    have HU := Lib.hid (upto3_all hrs7)
    clear hc7 hrs7
    go_wp2_with fail
    refine HU.out.mono ?_
    rintro e w8 ⟨many, st2, rfl, hrs8, hc8, hmany, hu2⟩
    have HU2 := Lib.hid hu2
    have hsz8 : oo + 1 ≤ w8.heap.size := Nat.le_trans hsz7 hc8.size
    have HZ8 := Lib.hid (HZ7.out.chg hc8 (fun e => by rcases e with e | e <;> omega))
    have HB8 := Lib.hid (lift_z HB7.out (fun i hi => by rcases hi with hi | hi <;> omega) (by omega) hc8)
    have HG8 := Lib.hid (HG7.out.chg hc8 (by omega) (by omega))
    have HW3 := Lib.hid (want3_ hrs8 ⟨#[10]⟩ (by decide))
    clear hu2 hc8 hrs8
    go_wp2_with fail
    refine HW3.out.mono ?_
    rintro e w9 ⟨rfl, hrs9, hc9⟩
    have hsz9 : oo + 1 ≤ w9.heap.size := Nat.le_trans hsz8 hc9.size
    have HZ9 := Lib.hid (HZ8.out.chg hc9 (fun e => by rcases e with e | e <;> omega))
    have HB9 := Lib.hid (lift_z HB8.out (fun i hi => by rcases hi with hi | hi <;> omega) (by omega) hc9)
    have HG9 := Lib.hid (HG8.out.chg hc9 (by omega) (by omega))
    have HRS9 := Lib.hid hrs9
    have HST : Hid (RelO vars many l o (wantS [10] l st2) 0 []) := Lib.hid (HO2.out ▸ relO_start HU1.out HU2.out)
    clear hc9 hrs9
    go_wp2
    go_loopw [10] (fun i wr => ∃ (j : Nat) (Ls : List (List Int)) (st : Except Wrong Nat), j ≤ many ∧ i = .int .i64 (j : Int) ∧ RS wr a b l st ∧ GAt wr (oo + 1) oo vars Ls ∧ Hid (Blk wr z 31 #[.int .i64 0, .slice none 0 0]) ∧ Hid (Below z w wr) ∧ oo + 1 ≤ wr.heap.size ∧ Hid (Ls.length = j) ∧ Hid (RelO vars many l o st j Ls)) (fun i _ => many - (intOf i).toNat)
    case atStart => exact ⟨0, [], _, Nat.zero_le _, rfl, HRS9.out, HG9.out, HZ9, HB9, hsz9, Lib.hid rfl, HST⟩
    case round =>
      obtain ⟨j, Ls, st, hj, rfl, hrs, hg, hz, hbw, hsz, hLj, hrel⟩ := hrel
      have HRS := Lib.hid hrs
      have HG := Lib.hid hg
      have hmm : (many : Int) ≤ 65536 := by omega
      have HBo : Hid (wr.cell? ⟨oo, 0, none⟩ = some (.int .i64 (vars : Int))) := Lib.hid (by obtain ⟨lv, us, h1, -⟩ := hg; exact h1.cell 0)
      clear hg
      cases st with
      | error x =>
        obtain ⟨f, p⟩ := x
        obtain ⟨x0, x1, x2, hfb, hfn⟩ := hrs.cellsE
        have hoe : o = .error (f, p) := hrel.out
        have HOE := Lib.hid hoe
        have y0 : wr.cell? ⟨z, 0, none⟩ = some (.int .i64 0) := hz.out.cell 0
        have y1 : wr.cell? ⟨z, 1, none⟩ = some (.slice none 0 0) := hz.out.cell 1
        have f0 : wr.frozen? ⟨z, 0, none⟩ = false := hz.out.frozen 0
        have f1 : wr.frozen? ⟨z, 1, none⟩ = false := hz.out.frozen 1
        clear hoe hrs hrel hLj
        by_cases hlt : (j : Int) < (many : Int)
        · focus
            have kb := Lib.hid (keep_bd (w := wr) (z := z) (u := .int .i64 0) (v := .slice none 0 0) (by omega : b ≠ z) x1 x2)
            go_wp2
            go_region_held3 (fun w' => w'.cell? ⟨b, 1, none⟩ = some (.int .i64 (f : Int)) ∧ w'.cell? ⟨b, 2, none⟩ = some (.int .i64 (p : Int))) (first | exact kb.out | (go_keep; done)) (fail)
            all_goals
              go_wp2
              have hE := (hz.out.set_ 0 (.int .i64 0)).set_ 1 (.slice none 0 0)
              have e0 := hE.cell 0
              have e1 := hE.cell 1
              simp at e0 e1
              refine bodyPost_ret (v := .tuple #[.agg #[.int .i64 0, .slice none 0 0], .int .i64 (p : Int), .int .i64 (f : Int)]) (by simp [results, Tryd.results28, go_sem, e0, e1]) rfl ?_
              refine rpost_err HOE.out rfl ?_
              rw [HZQ.out]
              exact ((hbw.out.setCell (p := ⟨z, 0, none⟩) (Nat.le_refl _) _).setCell (p := ⟨z, 1, none⟩) (Nat.le_refl _) _).drew
        · focus
            have kb := Lib.hid (keep_bd (w := wr) (z := z) (u := .int .i64 0) (v := .slice none 0 0) (by omega : b ≠ z) x1 x2)
            go_wp2
            go_region_held3 (fun w' => w'.cell? ⟨b, 1, none⟩ = some (.int .i64 (f : Int)) ∧ w'.cell? ⟨b, 2, none⟩ = some (.int .i64 (p : Int))) (first | exact kb.out | (go_keep; done)) (fail)
            all_goals
              go_wp2
              have hE := (hz.out.set_ 0 (.int .i64 0)).set_ 1 (.slice none 0 0)
              have e0 := hE.cell 0
              have e1 := hE.cell 1
              simp at e0 e1
              refine bodyPost_ret (v := .tuple #[.agg #[.int .i64 0, .slice none 0 0], .int .i64 (p : Int), .int .i64 (f : Int)]) (by simp [results, Tryd.results28, go_sem, e0, e1]) rfl ?_
              refine rpost_err HOE.out rfl ?_
              rw [HZQ.out]
              exact ((hbw.out.setCell (p := ⟨z, 0, none⟩) (Nat.le_refl _) _).setCell (p := ⟨z, 1, none⟩) (Nat.le_refl _) _).drew
      | ok k =>
        obtain ⟨x0, x1⟩ := hrs.cellsB
        obtain ⟨A1, cap1, d0, d1, -⟩ := hrs.1.cells
        have hkl : k ≤ l.length := hrs.1.len.1
        by_cases hlt : (j : Int) < (many : Int)
        · focus
            have hjm : j < many := by omega
            have hLit := lit3_all HRS.out vars hvars
            obtain ⟨wo, rfl⟩ : ∃ wo : World, wo = wr := ⟨_, rfl⟩
            have HLIT := Lib.hid hLit
            have hbo := HBo.out
            have HZO := Lib.hid hz.out
            have HBO := Lib.hid hbw.out
            have HREL := Lib.hid hrel.out
            clear hLit hz hbw hrel hrs
            go_wp2_with fail
            refine HLIT.out.mono ?_
            rintro e w2 ⟨v, st', rfl, hrs2, hc2, hlr⟩
            have HI2 : Hid (RelI vars l (clauseF vars l k) st' v []) := Lib.hid (relI_start hkl hlr)
            have HRS2 := Lib.hid hrs2
            have HC2 := Lib.hid hc2
            clear hlr hrs2 hc2
            go_wp2
            go_loopw [11, 12] (fun c v' wr => ∃ (v : Int) (st : Except Wrong Nat) (cs : List Int), v' = .int .i64 v ∧ RS wr a b l st ∧ CRow wo.heap.size wr c cs ∧ Chg (AB a b) wo wr ∧ Hid (RelI vars l (clauseF vars l k) st v cs) ∧ cs.length ≤ 100001) (fun _ _ wr => mS wr a b l.length)
            case atStart => exact ⟨v, st', [], rfl, HRS2.out, ⟨World.ownsRow_nil _ _ _ _, fun g hg => by simp [Value.ownBlock] at hg⟩, HC2.out, HI2, by simp⟩
            case round =>
              clear HI2 HRS2 HC2
              obtain ⟨v, st, cs, rfl, hrs, hcr, hcw, HII, hcl⟩ := hrel
              have HRSI := Lib.hid hrs
              have HCR := Lib.hid hcr
              have HCW := Lib.hid hcw
              obtain ⟨A3, c3, rfl⟩ := hcr.form
              clear hcr hcw
              cases st with
              | error x =>
                obtain ⟨f, p⟩ := x
                have HX : Hid ((∃ x, (Except.error (f, p) : Except Wrong Nat) = .error x) ∨ v = 0) := Lib.hid (.inl ⟨_, rfl⟩)
                obtain ⟨y0, y1, -, hfb, -⟩ := RS.cellsE hrs
                clear hrs
                by_cases hv0 : v = 0
                · focus
                    subst hv0
                    have HW := Lib.hid (want3_ HRSI.out ⟨#[10]⟩ (by decide))
                    go_wp2_with fail
                    refine HW.out.mono ?_
                    rintro e w5 ⟨rfl, hs5, hc5⟩
                    have hcw5 := ab_trans HCW.out hc5
                    obtain ⟨lv, us, h1, h2, h3, h4, h5⟩ := HG.out
                    have k1 : Blk w5 oo 31 #[.int .i64 (vars : Int), lv] := h1.chg hcw5 (fun e => by rcases e with e | e <;> omega)
                    have q1 : w5.cell? ⟨oo, 1, none⟩ = some lv := k1.cell 1
                    have hrow5 : Row w5 23 1 lv Ls.length us := h2.chg hcw5 (fun g hg e => by have := h3 g hg; rcases e with e | e <;> omega)
                    have hu5 := HCR.out.chgS hc5 (fun g hg => by rcases hg with hg | hg <;> omega)
                    have HAP : Hid (∀ v' w3, AppPost (w5.alloc (.cells #[.slice A3 cs.length c3] 23)) 23 1 lv (Ls.length + 1) (us ++ [.slice A3 cs.length c3]) v' w3 → (GAt (w3.setCell ⟨oo, 1, none⟩ v') (oo + 1) oo vars (Ls ++ [cs]) ∧ Chg (fun g => g = oo ∨ oo + 1 ≤ g) w5 (w3.setCell ⟨oo, 1, none⟩ v')) ∧ w3.cell? ⟨oo, 1, none⟩ = some lv ∧ w3.frozen? ⟨oo, 1, none⟩ = false) := Lib.hid (fun v' w3 hp => by
                      have kb : Blk w3 oo 31 #[.int .i64 (vars : Int), lv] := (k1.alloc _).chg hp.2.1 (fun e => by have := h3 oo e; omega)
                      exact ⟨gat_app hsz h1 h2 h3 h4 h5 (by omega) (by omega) hcw5 hu5 hp, kb.cell 1, kb.frozen 1⟩)
                    have HRW := Lib.hid hrow5
                    have HS5 := Lib.hid hs5
                    have HCW5 := Lib.hid hcw5
                    have hll : Ls.length ≤ 65536 := by have := hLj.out; omega
                    clear h1 h2 h3 h4 h5 k1 hrow5 hu5 hs5 hc5 hcw5
                    go_wp2_with (at_builtin; refine wpList_app rfl _ _ _ rfl 23 (.slice none 0 0) 1 24 Tryd.underlying29 infoL rfl (by decide) lv Ls.length us rfl ?ho w5.heap.size 0 1 1 [.slice A3 cs.length c3] rfl rfl ?hn ?hs ?c1 ?c2 ?_)
                    case ho => exact HRW.out.alloc _
                    case hn => exact cellNew1 _ _ _ _ rfl
                    case hs => exact oneCell1b rfl
                    case c1 => unfold maxLen; omega
                    case c2 => omega
                    intro v' w6 hp6
                    obtain ⟨A6, c6, rfl⟩ := out_form hp6.1
                    obtain ⟨⟨hg6, hc6⟩, q6, f6⟩ := HAP.out _ w6 hp6
                    have HG6' := Lib.hid hg6
                    have HS6 := Lib.hid (HS5.out.chg hc6 (fun g hg => by rcases hg with hg | hg <;> omega))
                    have HZ6' := Lib.hid ((HZO.out.chg HCW5.out (fun e => by rcases e with e | e <;> omega)).chg hc6 (fun e => by rcases e with e | e <;> omega))
                    have hsz5' : oo + 1 ≤ w5.heap.size := Nat.le_trans hsz HCW5.out.size
                    have HB6' := Lib.hid (lift_z (lift_z HBO.out (fun i hi => by rcases hi with hi | hi <;> omega) (by omega) HCW5.out) (fun i hi => by rcases hi with hi | hi <;> omega) (by omega) hc6)
                    have hsz6' := Nat.le_trans hsz5' hc6.size
                    clear hp6 hg6 hc6
                    go_wp2
                    go_roundw
                    case rel => exact ⟨j + 1, Ls ++ [cs], _, by omega, by go_num, HS6.out, HG6'.out, HZ6', HB6', hsz6', Lib.hid (by rw [List.length_append, List.length_singleton, hLj.out]), Lib.hid (relO_step HREL.out hjm HII.out (by first | exact .inr rfl | exact HX.out))⟩
                    case measure => first | (simp [intOf]; omega) | (simp [Go.RowKit.intOf]; omega)
                · focus
                    have hvb : (v != 0) = true := by rw [bne_iff_ne]; exact hv0
                    clear hv0
                    have HW := Lib.hid (want3_ HRSI.out ⟨#[10]⟩ (by decide))
                    go_wp2_with fail
                    refine HW.out.mono ?_
                    rintro e w5 ⟨rfl, hs5, hc5⟩
                    have hcw5 := ab_trans HCW.out hc5
                    obtain ⟨lv, us, h1, h2, h3, h4, h5⟩ := HG.out
                    have k1 : Blk w5 oo 31 #[.int .i64 (vars : Int), lv] := h1.chg hcw5 (fun e => by rcases e with e | e <;> omega)
                    have q1 : w5.cell? ⟨oo, 1, none⟩ = some lv := k1.cell 1
                    have hrow5 : Row w5 23 1 lv Ls.length us := h2.chg hcw5 (fun g hg e => by have := h3 g hg; rcases e with e | e <;> omega)
                    have hu5 := HCR.out.chgS hc5 (fun g hg => by rcases hg with hg | hg <;> omega)
                    have HAP : Hid (∀ v' w3, AppPost (w5.alloc (.cells #[.slice A3 cs.length c3] 23)) 23 1 lv (Ls.length + 1) (us ++ [.slice A3 cs.length c3]) v' w3 → (GAt (w3.setCell ⟨oo, 1, none⟩ v') (oo + 1) oo vars (Ls ++ [cs]) ∧ Chg (fun g => g = oo ∨ oo + 1 ≤ g) w5 (w3.setCell ⟨oo, 1, none⟩ v')) ∧ w3.cell? ⟨oo, 1, none⟩ = some lv ∧ w3.frozen? ⟨oo, 1, none⟩ = false) := Lib.hid (fun v' w3 hp => by
                      have kb : Blk w3 oo 31 #[.int .i64 (vars : Int), lv] := (k1.alloc _).chg hp.2.1 (fun e => by have := h3 oo e; omega)
                      exact ⟨gat_app hsz h1 h2 h3 h4 h5 (by omega) (by omega) hcw5 hu5 hp, kb.cell 1, kb.frozen 1⟩)
                    have HRW := Lib.hid hrow5
                    have HS5 := Lib.hid hs5
                    have HCW5 := Lib.hid hcw5
                    have hll : Ls.length ≤ 65536 := by have := hLj.out; omega
                    clear h1 h2 h3 h4 h5 k1 hrow5 hu5 hs5 hc5 hcw5
                    go_wp2_with (at_builtin; refine wpList_app rfl _ _ _ rfl 23 (.slice none 0 0) 1 24 Tryd.underlying29 infoL rfl (by decide) lv Ls.length us rfl ?ho w5.heap.size 0 1 1 [.slice A3 cs.length c3] rfl rfl ?hn ?hs ?c1 ?c2 ?_)
                    case ho => exact HRW.out.alloc _
                    case hn => exact cellNew1 _ _ _ _ rfl
                    case hs => exact oneCell1b rfl
                    case c1 => unfold maxLen; omega
                    case c2 => omega
                    intro v' w6 hp6
                    obtain ⟨A6, c6, rfl⟩ := out_form hp6.1
                    obtain ⟨⟨hg6, hc6⟩, q6, f6⟩ := HAP.out _ w6 hp6
                    have HG6' := Lib.hid hg6
                    have HS6 := Lib.hid (HS5.out.chg hc6 (fun g hg => by rcases hg with hg | hg <;> omega))
                    have HZ6' := Lib.hid ((HZO.out.chg HCW5.out (fun e => by rcases e with e | e <;> omega)).chg hc6 (fun e => by rcases e with e | e <;> omega))
                    have hsz5' : oo + 1 ≤ w5.heap.size := Nat.le_trans hsz HCW5.out.size
                    have HB6' := Lib.hid (lift_z (lift_z HBO.out (fun i hi => by rcases hi with hi | hi <;> omega) (by omega) HCW5.out) (fun i hi => by rcases hi with hi | hi <;> omega) (by omega) hc6)
                    have hsz6' := Nat.le_trans hsz5' hc6.size
                    clear hp6 hg6 hc6
                    go_wp2
                    go_roundw
                    case rel => exact ⟨j + 1, Ls ++ [cs], _, by omega, by go_num, HS6.out, HG6'.out, HZ6', HB6', hsz6', Lib.hid (by rw [List.length_append, List.length_singleton, hLj.out]), Lib.hid (relO_step HREL.out hjm HII.out (by first | exact .inr rfl | exact HX.out))⟩
                    case measure => first | (simp [intOf]; omega) | (simp [Go.RowKit.intOf]; omega)
              | ok e =>
                obtain ⟨y0, y1⟩ := RS.cellsB hrs
                have hel : e ≤ l.length ∧ l.length ≤ 100000 := hrs.1.len
                by_cases hv0 : v = 0
                · focus
                    have HX : Hid ((∃ x, (Except.ok e : Except Wrong Nat) = .error x) ∨ v = 0) := Lib.hid (.inr hv0)
                    clear hrs
                    subst hv0
                    have HW := Lib.hid (want3_ HRSI.out ⟨#[10]⟩ (by decide))
                    go_wp2_with fail
                    refine HW.out.mono ?_
                    rintro e w5 ⟨rfl, hs5, hc5⟩
                    have hcw5 := ab_trans HCW.out hc5
                    obtain ⟨lv, us, h1, h2, h3, h4, h5⟩ := HG.out
                    have k1 : Blk w5 oo 31 #[.int .i64 (vars : Int), lv] := h1.chg hcw5 (fun e => by rcases e with e | e <;> omega)
                    have q1 : w5.cell? ⟨oo, 1, none⟩ = some lv := k1.cell 1
                    have hrow5 : Row w5 23 1 lv Ls.length us := h2.chg hcw5 (fun g hg e => by have := h3 g hg; rcases e with e | e <;> omega)
                    have hu5 := HCR.out.chgS hc5 (fun g hg => by rcases hg with hg | hg <;> omega)
                    have HAP : Hid (∀ v' w3, AppPost (w5.alloc (.cells #[.slice A3 cs.length c3] 23)) 23 1 lv (Ls.length + 1) (us ++ [.slice A3 cs.length c3]) v' w3 → (GAt (w3.setCell ⟨oo, 1, none⟩ v') (oo + 1) oo vars (Ls ++ [cs]) ∧ Chg (fun g => g = oo ∨ oo + 1 ≤ g) w5 (w3.setCell ⟨oo, 1, none⟩ v')) ∧ w3.cell? ⟨oo, 1, none⟩ = some lv ∧ w3.frozen? ⟨oo, 1, none⟩ = false) := Lib.hid (fun v' w3 hp => by
                      have kb : Blk w3 oo 31 #[.int .i64 (vars : Int), lv] := (k1.alloc _).chg hp.2.1 (fun e => by have := h3 oo e; omega)
                      exact ⟨gat_app hsz h1 h2 h3 h4 h5 (by omega) (by omega) hcw5 hu5 hp, kb.cell 1, kb.frozen 1⟩)
                    have HRW := Lib.hid hrow5
                    have HS5 := Lib.hid hs5
                    have HCW5 := Lib.hid hcw5
                    have hll : Ls.length ≤ 65536 := by have := hLj.out; omega
                    clear h1 h2 h3 h4 h5 k1 hrow5 hu5 hs5 hc5 hcw5
                    go_wp2_with (at_builtin; refine wpList_app rfl _ _ _ rfl 23 (.slice none 0 0) 1 24 Tryd.underlying29 infoL rfl (by decide) lv Ls.length us rfl ?ho w5.heap.size 0 1 1 [.slice A3 cs.length c3] rfl rfl ?hn ?hs ?c1 ?c2 ?_)
                    case ho => exact HRW.out.alloc _
                    case hn => exact cellNew1 _ _ _ _ rfl
                    case hs => exact oneCell1b rfl
                    case c1 => unfold maxLen; omega
                    case c2 => omega
                    intro v' w6 hp6
                    obtain ⟨A6, c6, rfl⟩ := out_form hp6.1
                    obtain ⟨⟨hg6, hc6⟩, q6, f6⟩ := HAP.out _ w6 hp6
                    have HG6' := Lib.hid hg6
                    have HS6 := Lib.hid (HS5.out.chg hc6 (fun g hg => by rcases hg with hg | hg <;> omega))
                    have HZ6' := Lib.hid ((HZO.out.chg HCW5.out (fun e => by rcases e with e | e <;> omega)).chg hc6 (fun e => by rcases e with e | e <;> omega))
                    have hsz5' : oo + 1 ≤ w5.heap.size := Nat.le_trans hsz HCW5.out.size
                    have HB6' := Lib.hid (lift_z (lift_z HBO.out (fun i hi => by rcases hi with hi | hi <;> omega) (by omega) HCW5.out) (fun i hi => by rcases hi with hi | hi <;> omega) (by omega) hc6)
                    have hsz6' := Nat.le_trans hsz5' hc6.size
                    clear hp6 hg6 hc6
                    go_wp2
                    go_roundw
                    case rel => exact ⟨j + 1, Ls ++ [cs], _, by omega, by go_num, HS6.out, HG6'.out, HZ6', HB6', hsz6', Lib.hid (by rw [List.length_append, List.length_singleton, hLj.out]), Lib.hid (relO_step HREL.out hjm HII.out (by first | exact .inr rfl | exact HX.out))⟩
                    case measure => first | (simp [intOf]; omega) | (simp [Go.RowKit.intOf]; omega)
                · have hvb : (v != 0) = true := by rw [bne_iff_ne]; exact hv0
                  have HV0 := Lib.hid hv0
                  have hce : cs.length ≤ e := by obtain ⟨-, -, h, -⟩ := HII.out; exact h
                  have HM := Lib.hid (RS.mS_ok (n := l.length) hrs)
                  have hszr : wo.heap.size ≤ wr.heap.size := HCW.out.size
                  clear hrs hv0
                  go_wp2_with (at_builtin; refine wpList_app rfl _ _ _ rfl 3 (.int .i64 0) 1 8 Tryd.underlying23 infoI rfl (by decide) (.slice A3 cs.length c3) cs.length (cs.map iv) rfl ?ho wr.heap.size 0 1 1 [.int .i64 v] rfl rfl ?hn ?hs ?c1 ?c2 ?_)
                  case ho => exact HCR.out.1.alloc _
                  case hn => exact cellNew1 _ _ _ _ rfl
                  case hs => exact oneCell1b rfl
                  case c1 => unfold maxLen; omega
                  case c2 => omega
                  intro v' w3 hp3
                  have hap := HCR.out.app hszr hp3
                  have hrs3 := HRSI.out.chg hap.2 (fun g hg => by omega)
                  have HCR3 := Lib.hid hap.1
                  have HCW3 := Lib.hid (HCW.out.trans hap.2 (fun i hi => .inr hi))
                  have HW := Lib.hid (want3_ hrs3 ⟨#[32]⟩ (by decide))
                  clear hp3 hap hrs3
                  go_wp2_with fail
                  refine HW.out.mono ?_
                  rintro e4 w4 ⟨rfl, hs4, hc4⟩
                  have HLIT4 := Lib.hid (lit3_all hs4 vars hvars)
                  have HCR4 := Lib.hid (HCR3.out.chgS hc4 (fun g hg => by rcases hg with hg | hg <;> omega))
                  have HCW4 := Lib.hid (ab_trans HCW3.out hc4)
                  have hb4 : w4.cell? ⟨oo, 0, none⟩ = some (.int .i64 (vars : Int)) := by obtain ⟨lv, us, h1, -⟩ := HG.out; exact (h1.chg HCW4.out (fun e => by rcases e with e | e <;> omega)).cell 0
                  clear hs4 hc4
                  go_wp2_with fail
                  refine HLIT4.out.mono ?_
                  rintro e5 w5 ⟨n5, st5, rfl, hrs5, hc5, hlr5⟩
                  have HCR5 := Lib.hid (HCR4.out.chgS hc5 (fun g hg => by rcases hg with hg | hg <;> omega))
                  have HCW5 := Lib.hid (ab_trans HCW4.out hc5)
                  have HRS5' := Lib.hid hrs5
                  have HL5 := Lib.hid hlr5
                  obtain ⟨A5, c5, rfl⟩ := HCR5.out.form
                  clear hrs5 hc5 hlr5
                  go_wp2
                  go_roundw
                  case rel => exact ⟨n5, st5, cs ++ [v], rfl, HRS5'.out, (by simpa using HCR5.out), HCW5.out, Lib.hid (relI_step HII.out hel.1 HV0.out HL5.out), by rw [List.length_append, List.length_singleton]; omega⟩
                  case measure =>
                    rw [HM.out]
                    cases st5 with
                    | error x => rw [RS.mS_err HRS5'.out]; omega
                    | ok e2 => rw [RS.mS_ok HRS5'.out]; have := lrel_lt HL5.out rfl; omega
        · have hjm : j = many := by omega
          have hfin := hrel.out
          unfold RelO at hfin
          simp only at hfin
          rw [show many - j = 0 by omega, show clausesF vars l 0 k Ls = .ok (Ls, k) from rfl] at hfin
          simp only [finF] at hfin
          have y0 : wr.cell? ⟨z, 0, none⟩ = some (.int .i64 0) := hz.out.cell 0
          have y1 : wr.cell? ⟨z, 1, none⟩ = some (.slice none 0 0) := hz.out.cell 1
          have f0 : wr.frozen? ⟨z, 0, none⟩ = false := hz.out.frozen 0
          have f1 : wr.frozen? ⟨z, 1, none⟩ = false := hz.out.frozen 1
          clear hrs hrel hLj
          by_cases hk : k < l.length
          · rw [if_pos hk] at hfin
            have hki : (k : Int) < (l.length : Int) := by omega
            have HOE := Lib.hid hfin.symm
            have HF := Lib.hid (fail_ HRS.out 13 k (by decide))
            clear hfin hk
            obtain ⟨wo, rfl⟩ : ∃ wo : World, wo = wr := ⟨_, rfl⟩
            have HZO := Lib.hid hz.out
            have HBO := Lib.hid hbw.out
            clear hz hbw
            go_wp2_with fail
            refine HF.out.mono ?_
            rintro e wr ⟨rfl, hs3, hc3⟩
            obtain ⟨x0', x1, x2, hfb, hfn⟩ := RS.cellsE hs3
            have hz := Lib.hid (HZO.out.chg hc3 (fun e => by rcases e with e | e <;> omega))
            have hbw := Lib.hid (lift_z HBO.out (fun i hi => by rcases hi with hi | hi <;> omega) (by omega) hc3)
            have y0 : wr.cell? ⟨z, 0, none⟩ = some (.int .i64 0) := hz.out.cell 0
            have y1 : wr.cell? ⟨z, 1, none⟩ = some (.slice none 0 0) := hz.out.cell 1
            have f0 : wr.frozen? ⟨z, 0, none⟩ = false := hz.out.frozen 0
            have f1 : wr.frozen? ⟨z, 1, none⟩ = false := hz.out.frozen 1
            obtain ⟨f, hf13⟩ : ∃ f : Nat, f = 13 := ⟨_, rfl⟩
            obtain ⟨p, hpk⟩ : ∃ p : Nat, p = k := ⟨_, rfl⟩
            rw [← hf13, ← hpk] at HOE
            rw [← hf13] at x1 hfb hfn
            rw [← hpk] at x2
            have HOE := HOE
            clear hs3 hc3 hf13 hpk
            have kb := Lib.hid (keep_bd (w := wr) (z := z) (u := .int .i64 0) (v := .slice none 0 0) (by omega : b ≠ z) x1 x2)
            go_wp2
            go_region_held3 (fun w' => w'.cell? ⟨b, 1, none⟩ = some (.int .i64 (f : Int)) ∧ w'.cell? ⟨b, 2, none⟩ = some (.int .i64 (p : Int))) (first | exact kb.out | (go_keep; done)) (fail)
            all_goals
              go_wp2
              have hE := (hz.out.set_ 0 (.int .i64 0)).set_ 1 (.slice none 0 0)
              have e0 := hE.cell 0
              have e1 := hE.cell 1
              simp at e0 e1
              refine bodyPost_ret (v := .tuple #[.agg #[.int .i64 0, .slice none 0 0], .int .i64 (p : Int), .int .i64 (f : Int)]) (by simp [results, Tryd.results28, go_sem, e0, e1]) rfl ?_
              refine rpost_err HOE.out rfl ?_
              rw [HZQ.out]
              exact ((hbw.out.setCell (p := ⟨z, 0, none⟩) (Nat.le_refl _) _).setCell (p := ⟨z, 1, none⟩) (Nat.le_refl _) _).drew
          · rw [if_neg hk] at hfin
            have hki : ¬ (k : Int) < (l.length : Int) := by omega
            have HOE := Lib.hid hfin.symm
            obtain ⟨lv, us, h1, h2, h3, h4, h5⟩ := HG.out
            have q0 : wr.cell? ⟨oo, 0, none⟩ = some (.int .i64 (vars : Int)) := h1.cell 0
            have q1 : wr.cell? ⟨oo, 1, none⟩ = some lv := h1.cell 1
            have HIS : Hid (∀ wE, Chg (fun i => i = z) wr wE → IntsS wE lv Ls) := Lib.hid (fun wE hc => (h2.chg hc (fun g hg e => by have := h3 g hg; omega)).intsS (h5.chg hc (fun g _ e => .inl (by omega))))
            obtain ⟨A2, c2, rfl⟩ := out_form h2
            clear h1 h2 h3 h4 h5 hfin
            go_wp2
            have hE := (hz.out.set_ 0 (.int .i64 (vars : Int))).set_ 1 (.slice A2 Ls.length c2)
            have e0 := hE.cell 0
            have e1 := hE.cell 1
            simp at e0 e1
            refine bodyPost_ret (v := .tuple #[.agg #[.int .i64 (vars : Int), .slice A2 Ls.length c2], .int .i64 0, .int .i64 0]) (by simp [results, Tryd.results28, go_sem, e0, e1]) rfl ?_
            refine rpost_ok HOE.out rfl ?_ (HIS.out _ (((Chg.refl (fun i => i = z) wr).setCell (p := ⟨z, 0, none⟩) (.inl rfl) _).setCell (p := ⟨z, 1, none⟩) (.inl rfl) _))
            rw [HZQ.out]
            exact (hbw.out.setCell (p := ⟨z, 0, none⟩) (Nat.le_refl _) _).setCell (p := ⟨z, 1, none⟩) (Nat.le_refl _) _
end Go.Proofs.YtnpmaphedcfnnaaDoor
