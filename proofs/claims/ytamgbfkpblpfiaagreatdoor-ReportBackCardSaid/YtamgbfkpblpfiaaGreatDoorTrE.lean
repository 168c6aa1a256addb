/-
  Package trace: Print, walked.
-/
import Derived.Test.YtamgbfkpblpfiaaGreatDoorTrA
import Derived.Deep.RegionHeld3
namespace Go.Proofs.YtamgbfkpblpfiaaGreatDoor
open Go.ChangeShapes Go.WideShapes Go.ChangeAt Go.RowKit
set_option linter.unusedVariables false
def decT (n : Int) : List UInt8 := Lib.decDigits n.toNat
def cellT (i : Nat) (c : Int × Int) : List UInt8 := lineT [99, 101, 108, 108] [decT i, decT c.1, decT c.2]
def memT (i : Nat) (cs : CS) : List UInt8 := cs.flatMap (cellT i)
def memsT (mems : List CS) (k : Nat) : List UInt8 := (List.range k).flatMap fun i => memT i (mems.getD i [])
def cycT (l : List Bool) : List UInt8 := lineT [99, 121, 99, 108, 101] [truT l]
def headT (d : TrD) : List UInt8 := lineT [116, 114, 97, 99, 101] [decT d.lat.length, decT d.mems.length] ++ lineT [108, 97, 116, 99, 104, 101, 115] [truT d.lat]
def printT (d : TrD) : List UInt8 := headT d ++ memsT d.mems d.mems.length ++ d.ins.flatMap cycT ++ lineT [98, 97, 100] [decT d.bad]
theorem decT_len {n : Int} (h : n < 18446744073709551616) : (decT n).length ≤ 20 := dec_len 19 _ (by omega)
theorem cellT_len (i : Nat) (hi : i < 100) {c : Int × Int} (h : wf c.1 ∧ wf c.2) : (cellT i c).length ≤ 100 := by
  have h1 := decT_len (n := (i : Int)) (by omega)
  have h2 := decT_len h.1.2
  have h3 := decT_len h.2.2
  simp only [cellT, lineT, wordT, List.flatMap_cons, List.flatMap_nil, List.length_append, List.length_cons, List.length_nil]
  omega
theorem memT_len {i : Nat} (hi : i < 100) {cs : CS} (h : ∀ p ∈ cs, wf p.1 ∧ wf p.2) : ∀ k, k ≤ cs.length → ((cs.take k).flatMap (cellT i)).length ≤ k * 100
  | 0, _ => by simp
  | k + 1, hk => by
    rw [flat_step (cellT i) (0, 0) (by omega), List.length_append, Nat.succ_mul]
    have := memT_len hi h k (by omega)
    have := cellT_len i hi (wf_getD h k)
    omega
theorem cycT_len {l : List Bool} (h : l.length ≤ 4200) : (cycT l).length ≤ 5100 := by
  have := truT_len l h
  simp only [cycT, lineT, wordT, List.flatMap_cons, List.flatMap_nil, List.length_append, List.length_cons, List.length_nil]
  omega
theorem cycs_len {ins : List (List Bool)} (h : ∀ k, k < ins.length → (ins.getD k []).length ≤ 4200) : ∀ k, k ≤ ins.length → ((ins.take k).flatMap cycT).length ≤ k * 5100
  | 0, _ => by simp
  | k + 1, hk => by
    rw [flat_step cycT [] (by omega), List.length_append, Nat.succ_mul]
    have := cycs_len h k (by omega)
    have := cycT_len (h k (by omega))
    omega
theorem memsT_succ (mems : List CS) (k : Nat) : memsT mems (k + 1) = memsT mems k ++ memT k (mems.getD k []) := by
  unfold memsT
  rw [List.range_succ, List.flatMap_append]
  simp
theorem memsT_len {mems : List CS} (h : ∀ k, k < mems.length → (∀ p ∈ mems.getD k [], wf p.1 ∧ wf p.2) ∧ (mems.getD k []).length ≤ 4096) (hm : mems.length ≤ 100) : ∀ k, k ≤ mems.length → (memsT mems k).length ≤ k * 409600
  | 0, _ => by simp [memsT]
  | k + 1, hk => by
    rw [memsT_succ, List.length_append, Nat.succ_mul]
    have := memsT_len h hm k (by omega)
    obtain ⟨h1, h2⟩ := h k (by omega)
    have h3 := memT_len (i := k) (by omega) h1 _ (Nat.le_refl _)
    rw [List.take_length] at h3
    have : (mems.getD k []).length * 100 ≤ 4096 * 100 := Nat.mul_le_mul_right _ h2
    unfold memT
    omega
theorem headT_len {d : TrD} (h1 : d.lat.length ≤ 4096) (h2 : d.mems.length ≤ 4096) : (headT d).length ≤ 6000 := by
  have a := decT_len (n := (d.lat.length : Int)) (by omega)
  have b := decT_len (n := (d.mems.length : Int)) (by omega)
  have := truT_len d.lat (by omega)
  simp only [headT, lineT, wordT, List.flatMap_cons, List.flatMap_nil, List.length_append, List.length_cons, List.length_nil]
  omega
/-- The printer, made in the world w1 as its next block, holds this text. -/
def PrI (w1 : World) (text : List UInt8) (wr : World) : Prop := Bd w1.heap.size w1.heap.size text wr ∧ Below w1.heap.size w1 wr
theorem PrI.below {w1 W W' : World} {t : List UInt8} (h : PrI w1 t W) (hb : Below W.heap.size W W') : PrI w1 t W' := ⟨h.1.below hb, h.2.trans (hb.mono h.2.size)⟩
theorem number_at {w1 W0 : World} {text : List UInt8} (ht : Tab w1) (hI : PrI w1 text W0) (x : Int) (h0 : 0 ≤ x) (h1 : x < 18446744073709551616) : ∀ W, Below W0.heap.size W0 W →
    Calls Tryz.prog 71 #[.int .u64 x] W fun e w' => e = .returned (.string (bs (decT x))) ∧ Below W0.heap.size W0 w' ∧ Below w1.heap.size w1 w' := by
  intro W hW
  have hb : Below w1.heap.size w1 W := hI.2.trans (hW.mono hI.2.size)
  have := number_ x.toNat (by omega) (ht.below hb)
  rw [Int.toNat_of_nonneg h0] at this
  exact this.mono fun e w' ⟨h1, h2⟩ => ⟨h1, hW.trans (h2.mono hW.size), hb.trans (h2.mono hb.size)⟩
theorem truths_at {w1 W0 : World} {text : List UInt8} (hI : PrI w1 text W0) {v : Value} {l : List Bool} (h : Bo w1 v l) (hl : l.length ≤ 100000) : ∀ W, Below W0.heap.size W0 W →
    Calls Tryz.prog 72 #[v] W fun e w' => e = .returned (.string (bs (truT l))) ∧ Below W0.heap.size W0 w' ∧ Below w1.heap.size w1 w' := by
  intro W hW
  have hb : Below w1.heap.size w1 W := hI.2.trans (hW.mono hI.2.size)
  exact (truths_ (h.below stays_bo hb) hl).mono fun e w' ⟨h1, h2⟩ => ⟨h1, hW.trans (h2.mono hW.size), hb.trans (h2.mono hb.size)⟩
theorem line_at {w1 W0 : World} {text : List UInt8} (hI : PrI w1 text W0) (wd : ByteArray) (word : List UInt8) (hwd : wd = bs word) (cs : Array Value) (ls : List (List UInt8)) (hcs : cs = strsA ls) (n : Nat) (hn : n = ls.length) (hw : word.length ≤ 100) (hc : ls.length ≤ 100) (hl : ∀ l ∈ ls, l.length ≤ 5000) (hlen : text.length ≤ 1000000000000) :
    ∀ W, Below W0.heap.size W0 W → ∀ c, Calls Tryz.prog 70 #[.pointer (some ⟨w1.heap.size, 0, none⟩), .string wd, .slice (some ⟨W.heap.size, 0, none⟩) n c] (W.alloc (.cells cs 9)) fun e w' => e = .returned (.tuple #[]) ∧ PrI w1 (text ++ lineT word ls) w' ∧ Keep W w' := by
  intro W hW c
  subst hwd hcs hn
  have hb : Below w1.heap.size w1 W := hI.2.trans (hW.mono hI.2.size)
  have hb2 : Below w1.heap.size w1 (W.alloc (.cells (strsA ls) 9)) := hb.alloc hb.size _
  have hW2 : Below W0.heap.size W0 (W.alloc (.cells (strsA ls) 9)) := hW.alloc hW.size _
  exact (line_ (hI.1.below hW2) hb2.size word ls W.heap.size (Blk.new W 9 _) ls.length c rfl hw hc (fun k hk => hl _ (by simp [List.getD, hk])) hlen).mono fun e w' ⟨h1, h2, h3, h4⟩ => ⟨h1, ⟨h2, hb2.trans h3⟩, fun q t cs e1 e2 hq => h4 q t cs e1 e2 (hq.alloc _)⟩
end Go.Proofs.YtamgbfkpblpfiaaGreatDoor
/-
  Package trace: Print, walked whole.
-/
namespace Go.Proofs.YtamgbfkpblpfiaaGreatDoor
open Go.ChangeShapes Go.WideShapes Go.ChangeAt Go.RowKit
set_option linter.unusedVariables false
theorem load_agg4 {w : World} {g : Nat} {t : TypeId} {v0 v1 v2 v3 : Value} (h : Blk w g t #[v0, v1, v2, v3]) : w.cell? ⟨g, 0, none⟩ = some v0 ∧ w.cell? ⟨g, 1, none⟩ = some v1 ∧ w.cell? ⟨g, 2, none⟩ = some v2 ∧ w.cell? ⟨g, 3, none⟩ = some v3 := ⟨h.cell 0, h.cell 1, h.cell 2, h.cell 3⟩
set_option maxHeartbeats 1000000 in
theorem trace_Print_no {w : World} {d : TrD} {vl vm vi : Value} (h : TrP w d vl vm vi) (hd : rightT d = false) : Calls Tryz.prog 33 #[trV d vl vm vi] w fun e w' => e = .returned (.tuple #[.string (bs []), .int .i64 14]) ∧ Below w.heap.size w w' := by
  obtain ⟨a1, c1, hv1⟩ := h.lat.len
  obtain ⟨a2, c2, hv2, -, -⟩ := h.mems.form
  obtain ⟨a3, c3, hv3, -, -⟩ := h.ins.form
  have HB0 : Hid (∀ x, Below w.heap.size w (w.alloc x)) := Lib.hid fun x => (Below.refl _ _).alloc (Nat.le_refl _) _
  have HR := Lib.hid (fun x => trace_Right (h.below (HB0.out x)))
  subst hv1 hv2 hv3
  have e0 : bs [] = ⟨#[]⟩ := rfl
  rw [hd] at HR
  rw [e0]
  unfold trV at *
  obtain ⟨lat, mems, ins, bad⟩ := d
  clear h hd e0
  simp only at *
  generalize lat.length = n1 at *
  generalize mems.length = n2 at *
  generalize ins.length = n3 at *
  go_enter Tryz.func33, Tryz.ntmps33
  go_wp2_with fail
  refine (HR.out _).mono ?_
  rintro e w1 ⟨rfl, hb1⟩
  have HB1 := Lib.hid ((HB0.out _).trans (hb1.mono (HB0.out _).size))
  clear hb1
  go_wp2
  go_ret2
  exact ⟨rfl, HB1.out⟩
theorem right_parts {d : TrD} (h : rightT d = true) : d.lat.length ≤ 4096 ∧ d.mems.length ≤ 4 ∧ d.ins.length ≤ 4096 ∧ 0 ≤ d.bad ∧ d.bad ≤ 1000 ∧ (∀ k, k < d.ins.length → (d.ins.getD k []).length ≤ 4096) ∧ (∀ k, k < d.mems.length → (d.mems.getD k []).length ≤ 4096) := by
  unfold rightT at h
  simp only [Bool.and_eq_true, Bool.not_eq_true'] at h
  obtain ⟨h1, h2, h3⟩ := h
  obtain ⟨q1, q2, q3, q4, q5⟩ := dimT_parts h1
  refine ⟨q1, q2, q3, q4, q5, fun k hk => ?_, fun k hk => ?_⟩
  · have := List.any_eq_false.1 h2 (d.ins[k]) (List.getElem_mem hk)
    unfold longB at this
    simp only [decide_eq_true_eq] at this
    simp [List.getD, hk]
    omega
  · have := List.any_eq_false.1 h3 (d.mems[k]) (List.getElem_mem hk)
    unfold wrongB at this
    have : rightB 62 64 (d.mems[k]) = true := by simpa using this
    unfold rightB at this
    simp only [Bool.and_eq_true, decide_eq_true_eq] at this
    simp [List.getD, hk]
    omega
theorem pairs_wf {w : World} {v : Value} {cs : CS} (h : Pairs w v cs) : ∀ p ∈ cs, wf p.1 ∧ wf p.2 := by
  obtain ⟨a, cap, -, -, -, h, -⟩ := h; exact h
theorem PrI.fresh (w1 : World) : PrI w1 [] (w1.alloc (.cells #[.pointer none, .slice none 0 0] 127)) := ⟨Bd.fresh w1, (Below.refl _ _).alloc (Nat.le_refl _) _⟩
/-- Before the k-th memory; before its j-th cell; before the k-th cycle. -/
def PrM (w1 : World) (d : TrD) (k : Nat) (wr : World) : Prop := PrI w1 (headT d ++ memsT d.mems k) wr
def PrC (w1 : World) (pre : List UInt8) (k : Nat) (cs : CS) (j : Nat) (wr : World) : Prop := PrI w1 (pre ++ (cs.take j).flatMap (cellT k)) wr
def PrN (w1 : World) (d : TrD) (k : Nat) (wr : World) : Prop := PrI w1 (headT d ++ memsT d.mems d.mems.length ++ (d.ins.take k).flatMap cycT) wr
def PrintPost (w : World) (t : List UInt8) (e : Ending) (w' : World) : Prop := e = .returned (.tuple #[.string (bs t), .int .i64 0]) ∧ Below w.heap.size w w'
set_option maxHeartbeats 8000000 in
set_option maxRecDepth 100000 in
theorem trace_Print_yes {w : World} {d : TrD} {vl vm vi : Value} (h : TrP w d vl vm vi) (hd : rightT d = true) (ht : Tab w) : Calls Tryz.prog 33 #[trV d vl vm vi] w (PrintPost w (printT d)) := by
  obtain ⟨b1, b2, b3, b4, b5, b6, b7⟩ := right_parts hd
  obtain ⟨a1, c1, hv1⟩ := h.lat.len
  obtain ⟨a2, c2, hv2, -, -⟩ := h.mems.form
  obtain ⟨a3, c3, hv3, -, -⟩ := h.ins.form
  have HB0 : Hid (∀ x, Below w.heap.size w (w.alloc x)) := Lib.hid fun x => (Below.refl _ _).alloc (Nat.le_refl _) _
  have HR := Lib.hid (fun x => trace_Right (h.below (HB0.out x)))
  have H := Lib.hid h
  have HT := Lib.hid ht
  have B6 := Lib.hid b6
  have B7 := Lib.hid b7
  have HH := Lib.hid (headT_len b1 (by omega))
  rw [hd] at HR
  subst hv1 hv2 hv3
  unfold trV at *
  obtain ⟨n1, hn1⟩ : ∃ n, n = d.lat.length := ⟨_, rfl⟩
  obtain ⟨n2, hn2⟩ : ∃ n, n = d.mems.length := ⟨_, rfl⟩
  obtain ⟨n3, hn3⟩ : ∃ n, n = d.ins.length := ⟨_, rfl⟩
  obtain ⟨bad, hbad⟩ : ∃ n, n = d.bad := ⟨_, rfl⟩
  rw [← hn1, ← hn2, ← hn3, ← hbad] at HR ⊢
  rw [← hn1] at b1
  rw [← hn2] at b2
  rw [← hn3] at b3
  rw [← hbad] at b4 b5
  have N1 := Lib.hid hn1
  have N2 := Lib.hid hn2
  have N3 := Lib.hid hn3
  have NB := Lib.hid hbad
  have eg : ∀ args w, (callFunc 70 args).run Tryz.prog w = .ok (.enter 70 args) w := enters_of Tryz.func70 (by kernel_rfl) rfl
  clear h hd ht b6 b7 hn1 hn2 hn3 hbad
  go_enter Tryz.func33, Tryz.ntmps33
  go_wp2_with fail
  refine (HR.out _).mono ?_
  rintro e w1 ⟨rfl, hb1⟩
  have HB1 := Lib.hid ((HB0.out _).trans (hb1.mono (HB0.out _).size))
  have hbk := (Blk.new w 30 #[.slice a1 n1 c1, .slice a2 n2 c2, .slice a3 n3 c3, .int .i64 bad]).below hb1 (by simp)
  have hI0 := PrI.fresh w1
  have K : Hid (∀ W, Below w1.heap.size w1 W → W.cell? ⟨w.heap.size, 0, none⟩ = some (.slice a1 n1 c1) ∧ W.cell? ⟨w.heap.size, 1, none⟩ = some (.slice a2 n2 c2) ∧ W.cell? ⟨w.heap.size, 2, none⟩ = some (.slice a3 n3 c3) ∧ W.cell? ⟨w.heap.size, 3, none⟩ = some (.int .i64 bad)) := Lib.hid fun W hW => load_agg4 (hbk.below hW hbk.lt)
  have HT1 := Lib.hid (HT.out.below HB1.out)
  have HP := Lib.hid (H.out.below HB1.out)
  clear hb1 hbk HR HB0
  go_wp2_with fail
  generalize hW0 : w1.alloc (.cells #[.pointer none, .slice none 0 0] 127) = W0 at *
  clear hW0
  have I0 := Lib.hid hI0
  obtain ⟨k0, k1, -, -⟩ := K.out _ hI0.2
  have A1 := Lib.hid (number_at HT1.out hI0 (n1 : Int) (by omega) (by omega))
  have A2 := Lib.hid (number_at HT1.out hI0 (n2 : Int) (by omega) (by omega))
  have A3 := Lib.hid (line_at hI0 ⟨#[116, 114, 97, 99, 101]⟩ [116, 114, 97, 99, 101] rfl #[.string (bs (decT n1)), .string (bs (decT n2))] [decT n1, decT n2] rfl 2 rfl (by simp) (by simp) (by
    have q1 := decT_len (n := (n1 : Int)) (by omega)
    have q2 := decT_len (n := (n2 : Int)) (by omega)
    simp; omega) (by simp))
  clear hI0
  have z1 : IntKind.u64.wrap (n1 : Int) = (n1 : Int) := IntWalk.u64_in _ (by omega)
  have z2 : IntKind.u64.wrap (n2 : Int) = (n2 : Int) := IntWalk.u64_in _ (by omega)
  have hbl : Below W0.heap.size W0 W0.drew := (Below.refl _ _).drew
  have HBL := Lib.hid hbl
  clear hbl
  go_region_held3 (fun w' => w'.cell? ⟨w.heap.size, 0, none⟩ = some (.slice a1 n1 c1) ∧ w'.cell? ⟨w.heap.size, 1, none⟩ = some (.slice a2 n2 c2)) (go_keep) (first
    | (go_at_call 71; (with_reducible refine (A1.out _ HBL.out).mono ?_); rintro e wa ⟨rfl, qa, ra⟩; have QA := Lib.hid qa; obtain ⟨ka, la, -, -⟩ := K.out _ ra; clear qa ra)
    | (go_at_call 71; (with_reducible refine (A2.out _ QA.out).mono ?_); rintro e wb ⟨rfl, qb, rb⟩; have QB := Lib.hid qb; obtain ⟨kb, lb, -, -⟩ := K.out _ rb; clear qb rb)
    | (go_at_call 70; (with_reducible refine (A3.out _ QB.out _).mono ?_); rintro e wc ⟨rfl, hI1, -⟩; obtain ⟨kc, lc, -, -⟩ := K.out _ hI1.2))
  clear k0 k1 ka la kb lb z1 z2 A1 A2 A3 HBL QA QB I0
  have hl1 : Bo w1 (.slice a1 n1 c1) d.lat := by rw [N1.out]; exact HP.out.lat
  have hl2 : (lineT [116, 114, 97, 99, 101] [decT (n1 : Int), decT (n2 : Int)]).length ≤ 100 := by
    have q1 := decT_len (n := (n1 : Int)) (by omega)
    have q2 := decT_len (n := (n2 : Int)) (by omega)
    simp only [lineT, wordT, List.flatMap_cons, List.flatMap_nil, List.length_append, List.length_cons, List.length_nil]
    omega
  have T1 := Lib.hid (truths_at hI1 hl1 (by rw [← N1.out]; omega) wc (Below.refl _ _))
  have I1 := Lib.hid hI1
  clear hl1 hI1
  go_wp2_with fail
  refine T1.out.mono ?_
  rintro e wd ⟨rfl, qd, rd⟩
  have A4 := Lib.hid (line_at I1.out ⟨#[108, 97, 116, 99, 104, 101, 115]⟩ [108, 97, 116, 99, 104, 101, 115] rfl #[.string (bs (truT d.lat))] [truT d.lat] rfl 1 rfl (by simp) (by simp) (by
    have := truT_len d.lat (by rw [← N1.out]; omega)
    simpa using this) (by simp at hl2 ⊢; omega) wd qd)
  clear qd rd hl2 T1 kc lc
  go_wp2_with fail
  refine (A4.out _).mono ?_
  rintro e we ⟨rfl, hI2, -⟩
  have I2 : Hid (PrM w1 d 0 we) := Lib.hid (by
    unfold PrM headT
    rw [← N1.out, ← N2.out]
    simpa [memsT] using hI2)
  obtain ⟨ke, le, -, -⟩ := K.out _ hI2.2
  clear hI2 A4 I1
  go_wp2
  go_loopw [42] (fun i wr => ∃ k : Nat, k ≤ n2 ∧ i = .int .i64 k ∧ PrM w1 d k wr) (fun i _ => n2 - (intOf i).toNat)
  case atStart => exact ⟨0, Nat.zero_le _, rfl, I2.out⟩
  case round =>
    obtain ⟨k, hk, rfl, hP⟩ := hrel
    by_cases hlt : (k : Int) < (n2 : Int)
    · have hkn : k < d.mems.length := by have := N2.out; omega
      obtain ⟨b, off, cap2, he, u, hcell, hpr⟩ := HP.out.mems.at_ hkn
      injection he with e1 e2 e3
      subst e1
      have hc1 := cell_below hcell hP.2
      rw [Nat.mul_one] at hc1
      have hmt := memsT_len (mems := d.mems) (fun k hk => by
        obtain ⟨b, off, cap2, he, u, hcell, hpr⟩ := HP.out.mems.at_ hk
        exact ⟨pairs_wf hpr, B7.out k hk⟩) (by rw [← N2.out]; omega) k (by omega)
      have hms := memsT_succ d.mems k
      have h7 := B7.out k hkn
      generalize d.mems.getD k [] = cs at *
      obtain ⟨xa, xc, hxe, -, -, hwf, hcs⟩ := hpr
      obtain ⟨cn, hcn⟩ : ∃ cn, cn = cs.length := ⟨_, rfl⟩
      rw [← hcn] at hxe h7
      subst hxe
      obtain ⟨pre, hpre⟩ : ∃ pre, pre = headT d ++ memsT d.mems k := ⟨_, rfl⟩
      have hpl : pre.length ≤ 1700000 := by
        rw [hpre, List.length_append]
        have := HH.out
        have : k * 409600 ≤ 4 * 409600 := Nat.mul_le_mul_right _ (by omega)
        omega
      have HP0 : Hid (PrC w1 pre k cs 0 wr) := Lib.hid (by
        unfold PrC
        rw [hpre]
        simpa [PrM] using hP)
      have HMS := Lib.hid hms
      have HPRE := Lib.hid hpre
      have HCN := Lib.hid hcn
      have HCS := Lib.hid hcs
      have HWF := Lib.hid hwf
      have HPW := Lib.hid hP
      clear hcell hmt hms hcs hwf hcn hpre e2 e3 hP
      obtain ⟨wo, rfl⟩ : ∃ wo : World, wo = wr := ⟨_, rfl⟩
      go_wp2
      go_loopw [49] (fun i wi => ∃ j : Nat, j ≤ cn ∧ i = .int .i64 j ∧ PrC w1 pre k cs j wi) (fun i _ => cn - (intOf i).toNat)
      case atStart => exact ⟨0, Nat.zero_le _, rfl, HP0.out⟩
      case round =>
        obtain ⟨j, hj, rfl, hP2⟩ := hrel
        clear hc1
        have hml := memT_len (i := k) (by omega) HWF.out j (by have := HCN.out; omega)
        have hjm : j * 100 ≤ 4096 * 100 := Nat.mul_le_mul_right _ (by omega)
        by_cases hlj : (j : Int) < (cn : Int)
        · have hjc : j < cs.length := by have := HCN.out; omega
          have hne : cs ≠ [] := fun e => by rw [e] at hjc; simp at hjc
          obtain ⟨b2, off2, rfl, -, hcc⟩ := HCS.out.resolve_left hne
          obtain ⟨q1, q2⟩ := hcc j hjc
          obtain ⟨⟨x0, x1⟩, ⟨y0, y1⟩⟩ := wf_getD HWF.out j
          have hst := flat_step (cellT k) (0, 0) hjc
          obtain ⟨x, hx⟩ : ∃ x, x = (cs.getD j (0, 0)).1 := ⟨_, rfl⟩
          obtain ⟨y, hy⟩ : ∃ y, y = (cs.getD j (0, 0)).2 := ⟨_, rfl⟩
          have hxy : cellT k (cs.getD j (0, 0)) = lineT [99, 101, 108, 108] [decT (k : Int), decT x, decT y] := by unfold cellT; rw [hx, hy]
          rw [← hx] at q1 x0 x1
          rw [← hy] at q2 y0 y1
          have q1 := cell_below q1 hP2.2
          have q2 := cell_below q2 hP2.2
          have HST : Hid (pre ++ (cs.take (j + 1)).flatMap (cellT k) = pre ++ (cs.take j).flatMap (cellT k) ++ lineT [99, 101, 108, 108] [decT (k : Int), decT x, decT y]) := Lib.hid (by rw [hst, hxy, List.append_assoc])
          have hp2 : PrI w1 (pre ++ (cs.take j).flatMap (cellT k)) (wr.alloc (.cells #[.int .u64 x, .int .u64 y] 121)) := PrI.below hP2 ((Below.refl _ _).alloc (Nat.le_refl _) _)
          have hbk := Blk.new wr 121 #[.int .u64 x, .int .u64 y]
          clear hst hx hy hxy hcc hne
          go_wp2_with fail
          generalize hW0 : wr.alloc (.cells #[.int .u64 x, .int .u64 y] 121) = W0 at *
          clear hW0
          generalize wr.heap.size = g at *
          have KB : Hid (∀ W, Below W0.heap.size W0 W → Blk W g 121 #[.int .u64 x, .int .u64 y]) := Lib.hid fun W hW => hbk.below hW hbk.lt
          have c0 : W0.cell? ⟨g, 0, none⟩ = some (.int .u64 x) := hbk.cell 0
          have c1' : W0.cell? ⟨g, 1, none⟩ = some (.int .u64 y) := hbk.cell 1
          have A1 := Lib.hid (number_at HT1.out hp2 (k : Int) (by omega) (by omega))
          have A2 := Lib.hid (number_at HT1.out hp2 x x0 x1)
          have A3 := Lib.hid (number_at HT1.out hp2 y y0 y1)
          have A4 := Lib.hid (line_at hp2 ⟨#[99, 101, 108, 108]⟩ [99, 101, 108, 108] rfl #[.string (bs (decT (k : Int))), .string (bs (decT x)), .string (bs (decT y))] [decT (k : Int), decT x, decT y] rfl 3 rfl (by simp) (by simp) (by
            have q1 := decT_len (n := (k : Int)) (by omega)
            have q2 := decT_len x1
            have q3 := decT_len y1
            simp; omega) (by rw [List.length_append]; omega))
          have z1 : IntKind.u64.wrap (k : Int) = (k : Int) := IntWalk.u64_in _ (by omega)
          have HBL := Lib.hid (show Below W0.heap.size W0 W0.drew from (Below.refl _ _).drew)
          clear hp2 hbk hP2 hml hjm q1 q2
          go_region_held3 (fun w' => w'.cell? ⟨g, 0, none⟩ = some (.int .u64 x) ∧ w'.cell? ⟨g, 1, none⟩ = some (.int .u64 y)) (go_keep) (first
            | (go_at_call 71; (with_reducible refine (A1.out _ HBL.out).mono ?_); rintro e wa ⟨rfl, qa, ra⟩; have QA := Lib.hid qa; have ka : wa.cell? ⟨g, 0, none⟩ = some (.int .u64 x) := (KB.out _ qa).cell 0; have la : wa.cell? ⟨g, 1, none⟩ = some (.int .u64 y) := (KB.out _ qa).cell 1; clear qa ra)
            | (go_at_call 71; (with_reducible refine (A2.out _ QA.out).mono ?_); rintro e wb ⟨rfl, qb, rb⟩; have QB := Lib.hid qb; have kb : wb.cell? ⟨g, 0, none⟩ = some (.int .u64 x) := (KB.out _ qb).cell 0; have lb : wb.cell? ⟨g, 1, none⟩ = some (.int .u64 y) := (KB.out _ qb).cell 1; clear qb rb)
            | (go_at_call 71; (with_reducible refine (A3.out _ QB.out).mono ?_); rintro e wc ⟨rfl, qc, rc⟩; have QC := Lib.hid qc; have kc : wc.cell? ⟨g, 0, none⟩ = some (.int .u64 x) := (KB.out _ qc).cell 0; have lc : wc.cell? ⟨g, 1, none⟩ = some (.int .u64 y) := (KB.out _ qc).cell 1; clear qc rc)
            | (go_at_call 70; (with_reducible refine (A4.out _ QC.out _).mono ?_); rintro e wf ⟨rfl, hI4, hkp⟩; have I4 := Lib.hid hI4; have kf : wf.cell? ⟨g, 0, none⟩ = some (.int .u64 x) := (hkp _ _ _ (by decide) (by decide) (KB.out _ QC.out)).cell 0; have lf : wf.cell? ⟨g, 1, none⟩ = some (.int .u64 y) := (hkp _ _ _ (by decide) (by decide) (KB.out _ QC.out)).cell 1; clear hI4 hkp))
          clear ka la kb lb kc lc kf lf c0 c1' z1
          have H5 : Hid (PrC w1 pre k cs (j + 1) wf) := Lib.hid (by
            unfold PrC
            rw [HST.out]
            exact I4.out)
          go_wp2
          go_roundw
          case rel => exact ⟨j + 1, by omega, by go_num, H5.out⟩
          case measure => simp [intOf]; omega
        · have hjc : j = cs.length := by have := HCN.out; omega
          have H5 : Hid (PrM w1 d (k + 1) wr) := Lib.hid (by
            unfold PrM
            unfold PrC at hP2
            rw [HMS.out, ← List.append_assoc, ← HPRE.out]
            rw [hjc, List.take_length] at hP2
            exact hP2)
          clear hjc hP2 hml hjm
          go_wp2
          go_roundw
          case rel => exact ⟨k + 1, by omega, by go_num, H5.out⟩
          case measure => simp [intOf]; omega
    · have hkn : k = d.mems.length := by have := N2.out; omega
      have H6 : Hid (PrN w1 d 0 wr) := Lib.hid (by
        unfold PrN
        unfold PrM at hP
        rw [hkn] at hP
        simpa using hP)
      have hmt := memsT_len (mems := d.mems) (fun k hk => by
        obtain ⟨b, off, cap2, he, u, hcell, hpr⟩ := HP.out.mems.at_ hk
        exact ⟨pairs_wf hpr, B7.out k hk⟩) (by rw [← N2.out]; omega) d.mems.length (Nat.le_refl _)
      have hpl : (headT d ++ memsT d.mems d.mems.length).length ≤ 1700000 := by
        rw [List.length_append]
        have := HH.out
        have : d.mems.length * 409600 ≤ 4 * 409600 := Nat.mul_le_mul_right _ (by rw [← N2.out]; omega)
        omega
      obtain ⟨-, -, q3, -⟩ := K.out _ hP.2
      clear hkn hP hmt I2
      obtain ⟨wo, rfl⟩ : ∃ wo : World, wo = wr := ⟨_, rfl⟩
      go_wp2
      go_loopw [70] (fun i wi => ∃ j : Nat, j ≤ n3 ∧ i = .int .i64 j ∧ PrN w1 d j wi) (fun i _ => n3 - (intOf i).toNat)
      case atStart => exact ⟨0, Nat.zero_le _, rfl, H6.out⟩
      case round =>
        obtain ⟨j, hj, rfl, hP2⟩ := hrel
        clear q3 ke le
        have hcl := cycs_len (fun k hk => Nat.le_trans (B6.out k hk) (by decide)) j (by have := N3.out; omega)
        have hjm : j * 5100 ≤ 4096 * 5100 := Nat.mul_le_mul_right _ (by omega)
        have hpl2 : (headT d ++ memsT d.mems d.mems.length ++ (d.ins.take j).flatMap cycT).length ≤ 100000000 := by
          rw [List.length_append]; omega
        have HI2 := Lib.hid hP2
        by_cases hlj : (j : Int) < (n3 : Int)
        · have hjn : j < d.ins.length := by have := N3.out; omega
          obtain ⟨b, off, cap2, he, u, hcell, hpr⟩ := HP.out.ins.at_ hjn
          injection he with e1 e2 e3
          subst e1
          have hc1 := cell_below hcell hP2.2
          rw [Nat.mul_one] at hc1
          have h6 := B6.out j hjn
          have hst := flat_step cycT [] hjn
          generalize d.ins.getD j [] = cy at *
          have T1 := Lib.hid (truths_at HI2.out hpr (by omega) wr (Below.refl _ _))
          have hcl5 := truT_len cy (by omega)
          have HST : Hid (headT d ++ memsT d.mems d.mems.length ++ (d.ins.take (j + 1)).flatMap cycT = headT d ++ memsT d.mems d.mems.length ++ (d.ins.take j).flatMap cycT ++ lineT [99, 121, 99, 108, 101] [truT cy]) := Lib.hid (by rw [hst, ← List.append_assoc]; rfl)
          have A4 := Lib.hid (fun W hW => line_at HI2.out ⟨#[99, 121, 99, 108, 101]⟩ [99, 121, 99, 108, 101] rfl #[.string (bs (truT cy))] [truT cy] rfl 1 rfl (by simp) (by simp) (by simpa using hcl5) (by omega) W hW)
          clear hcell hst hP2 hcl hjm hpl hpl2 hcl5 e2 e3 hpr
          go_wp2_with fail
          refine T1.out.mono ?_
          rintro e wd ⟨rfl, qd, rd⟩
          have AA := Lib.hid (A4.out wd qd)
          clear qd rd
          go_wp2_with fail
          refine (AA.out _).mono ?_
          rintro e we ⟨rfl, hI2, -⟩
          have H7 : Hid (PrN w1 d (j + 1) we) := Lib.hid (by
            unfold PrN
            rw [HST.out]
            exact hI2)
          clear hI2
          go_wp2
          go_roundw
          case rel => exact ⟨j + 1, by omega, by go_num, H7.out⟩
          case measure => simp [intOf]; omega
        · have hjn : j = d.ins.length := by have := N3.out; omega
          obtain ⟨-, -, -, q4⟩ := K.out _ hP2.2
          have A1 := Lib.hid (number_at HT1.out HI2.out bad (by omega) (by omega) wr (Below.refl _ _))
          have A4 := Lib.hid (fun W hW => line_at HI2.out ⟨#[98, 97, 100]⟩ [98, 97, 100] rfl #[.string (bs (decT bad))] [decT bad] rfl 1 rfl (by simp) (by simp) (by
            have := decT_len (n := bad) (by omega)
            simp; omega) (by omega) W hW)
          have HJ := Lib.hid hjn
          have HPL := Lib.hid hpl2
          clear hP2 hcl hjm hpl hpl2 hjn
          go_wp2_with fail
          refine A1.out.mono ?_
          rintro e wd ⟨rfl, qd, rd⟩
          have AA := Lib.hid (A4.out wd qd)
          clear qd rd
          go_wp2_with fail
          refine (AA.out _).mono ?_
          rintro e we ⟨rfl, hI2, -⟩
          have hp : PrI w1 (printT d) we := by
            unfold printT
            have e1 : (d.ins.take j).flatMap cycT = d.ins.flatMap cycT := by rw [HJ.out, List.take_length]
            rw [← NB.out, ← e1]
            exact hI2
          have hS := hp.1.string (by
            intro h
            have := congrArg List.length h
            unfold printT lineT at this
            simp at this)
          have HS : Hid (Calls Tryz.prog 35 #[.pointer (some ⟨w1.heap.size, 0, none⟩)] we fun e w' => e = .returned (.string (bs (printT d))) ∧ Below w1.heap.size we w') := Lib.hid hS
          have HB := Lib.hid (HB1.out.trans (hp.2.mono HB1.out.size))
          have HB2 : Hid (w.heap.size ≤ w1.heap.size) := Lib.hid HB1.out.size
          obtain ⟨s, hs⟩ : ∃ s, s = bs (printT d) := ⟨_, rfl⟩
          rw [← hs] at HS
          have HSS := Lib.hid hs
          clear hI2 hp hS hs
          go_wp2_with fail
          refine HS.out.mono ?_
          rintro e w4 ⟨rfl, hb4⟩
          have B4 := Lib.hid (HB.out.trans (hb4.mono HB2.out))
          clear hb4
          go_wp2
          go_ret2
          exact ⟨by rw [← HSS.out]; rfl, B4.out⟩
end Go.Proofs.YtamgbfkpblpfiaaGreatDoor
