/-
  Truths as text: package bits, and the document's.
-/
import Derived.Test.YtibinmabdidecaaGreatDoorSeqG
import Derived.Test.YtibinmabdidecaaGreatDoorShelf
namespace Go.Proofs.YtibinmabdidecaaGreatDoor
open Go.ChangeShapes Go.WideShapes Go.ChangeAt Go.RowKit
set_option linter.unusedVariables false
theorem infoU8 : (Tryz.prog.info? 5).map (fun i => (i.zero, i.size, i.bytes)) = some (some (.int .u8 0), 1, 1) := by kernel_rfl
def dig (b : Bool) : UInt8 := if b then 49 else 48
def digs (l : List Bool) : List UInt8 := l.map dig
theorem bits_put {w : World} {p g i n c : Nat} {u u0 : Value} (hp : w.cell? ⟨p, 0, none⟩ = some (.slice (some ⟨g, 0, none⟩) n c)) (hi : (i : Int) < (n : Int)) (hg : w.cell? ⟨g, i, none⟩ = some u0) (hf : w.frozen? ⟨g, i, none⟩ = false) (d : UInt8) (hu : u = .int .u8 (d.toNat : Int)) :
    Calls Tryz.prog 74 #[.int .i64 i, u, .pointer (some ⟨p, 0, none⟩)] w fun e w' => e = .returned (.tuple #[]) ∧ w' = w.setCell ⟨g, i, none⟩ u := by
  subst hu
  go_enter Tryz.func74, Tryz.ntmps74
  go_wp2
  go_returns
  exact ⟨rfl, rfl⟩
/-- Before round k. -/
def TxtRel (w : World) (l : List Bool) (n k : Nat) (wr : World) : Prop :=
  (∃ xs : List Value, Row wr 5 1 (.slice (some ⟨w.heap.size, 0, none⟩) n n) n xs ∧ ∀ j, j < k → xs.getD j undef = .int .u8 ((dig (l.getD j false)).toNat : Int)) ∧ Blk wr (w.heap.size + 1) 68 #[.slice (some ⟨w.heap.size, 0, none⟩) n n] ∧ Below w.heap.size w wr
theorem set_get {xs : List Value} {k j : Nat} (u : Value) (hj : j ≤ k) (hk : k < xs.length) : (xs.set k u).getD j undef = if j = k then u else xs.getD j undef := by
  by_cases h : j = k
  · subst h; simp [List.getD, hk]
  · have h' : k ≠ j := fun e => h e.symm
    simp [List.getD, h, List.getElem?_set_ne h']
theorem TxtRel.put1 {w wr : World} {l : List Bool} {n k : Nat} (h : TxtRel w l n k wr) (hk : k < n) (d : UInt8) (hd : dig (l.getD k false) = d ∨ True) (h1 : d = dig (l.getD k false)) :
    TxtRel w l n (k + 1) (wr.setCell ⟨w.heap.size, k, none⟩ (.int .u8 (d.toNat : Int))) := by
  obtain ⟨⟨xs, hr, hx⟩, hb, ho⟩ := h
  have hxl : xs.length = n := by have := hr.1; omega
  refine ⟨⟨_, hr.set1 k _, fun j hj => ?_⟩, hb.far (p := ⟨w.heap.size, k, none⟩) (by simp) _, ho.setCell (p := ⟨w.heap.size, k, none⟩) (Nat.le_refl _) _⟩
  rw [set_get _ (by omega) (by omega)]
  split
  · rename_i e; subst e; rw [h1]
  · exact hx j (by omega)
theorem TxtRel.put0 {w wr : World} {l : List Bool} {n k : Nat} (h : TxtRel w l n k wr) (hk : k < n) (u : Value) : TxtRel w l n k (wr.setCell ⟨w.heap.size, k, none⟩ u) := by
  obtain ⟨⟨xs, hr, hx⟩, hb, ho⟩ := h
  have hxl : xs.length = n := by have := hr.1; omega
  refine ⟨⟨_, hr.set1 k _, fun j hj => ?_⟩, hb.far (p := ⟨w.heap.size, k, none⟩) (by simp) _, ho.setCell (p := ⟨w.heap.size, k, none⟩) (Nat.le_refl _) _⟩
  rw [set_get _ (by omega) (by omega), if_neg (by omega)]
  exact hx j hj
theorem TxtRel.read {w wr : World} {l : List Bool} {n k : Nat} (h : TxtRel w l n k wr) {j : Nat} (hj : j < n) : ∃ u0, wr.cell? ⟨w.heap.size, j, none⟩ = some u0 ∧ wr.frozen? ⟨w.heap.size, j, none⟩ = false ∧ wr.cell? ⟨w.heap.size + 1, 0, none⟩ = some (.slice (some ⟨w.heap.size, 0, none⟩) n n) := by
  obtain ⟨⟨xs, hr, hx⟩, hb, ho⟩ := h
  obtain ⟨h1, h2⟩ := hr.at1 j hj
  exact ⟨_, h1, h2, hb.cell 0⟩
set_option maxHeartbeats 2000000 in
theorem bits_Text {w : World} {v : Value} {l : List Bool} (h : Bo w v l) (hl : l.length ≤ 100000) (h0 : 0 < l.length) :
    Calls Tryz.prog 54 #[v] w fun e w' => e = .returned (.string (bs (digs l))) ∧ Below w.heap.size w w' := by
  obtain ⟨a, cap, hv, -, -⟩ := h.form
  subst hv
  obtain ⟨n, hn⟩ : ∃ n, n = l.length := ⟨_, rfl⟩
  have hmk := fun W => run_makeN (P := Tryz.prog) 68 5 (.int .u8 0) 1 1 Tryz.underlying68 infoU8 .i64 .i64 n n (Nat.le_refl _) (by omega) (by omega) W
  have H := Lib.hid h
  obtain ⟨s, hs⟩ : ∃ s, s = bs (digs l) := ⟨_, rfl⟩
  rw [← hs, ← hn]
  rw [← hn] at hl h0 H
  have HN := Lib.hid hn
  have HS := Lib.hid hs
  clear h hn hs
  have hcv : ∀ wr, TxtRel w l n n wr → (convert 68 9 (.slice (some ⟨w.heap.size, 0, none⟩) n n)).run Tryz.prog wr = .ok (.string s) wr := fun wr hr => by
    obtain ⟨⟨xs, hr, hx⟩, -, -⟩ := hr
    have hdl : (digs l).length = n := by unfold digs; rw [List.length_map, HN.out]
    have := run_convert_bytes_back (P := Tryz.prog) wr 68 9 5 ⟨w.heap.size, 0, none⟩ n (digs l) Tryz.underlying68 Tryz.underlying5 Tryz.underlying9 (fun j hj => by
      have hj' : j < n := by omega
      have e : (⟨w.heap.size, 0, none⟩ : Addr).add j = ⟨w.heap.size, j, none⟩ := by unfold Addr.add; split <;> simp_all
      rw [e, (hr.at1 j hj').1, hx j hj']
      have hjl : j < l.length := by have := HN.out; omega
      simp [digs, List.getD, hjl])
    rw [hdl] at this
    rw [HS.out]
    exact this
  have HCV := Lib.hid hcv
  clear hcv
  have h0' : TxtRel w l n 0 ((w.alloc (.cells (madeCells (Value.int .u8 0).cells (n * 1)) 5)).alloc (.cells #[.slice (some ⟨w.heap.size, 0, none⟩) n n] 68)) := ⟨⟨_, (Row.made w 5 (Value.int .u8 0).cells 1 n n rfl (by decide) (Nat.le_refl _) (by unfold maxLen; omega)).alloc _, fun j hj => by omega⟩, by
      have := Blk.new (w.alloc (.cells (madeCells (Value.int .u8 0).cells (n * 1)) 5)) 68 #[.slice (some ⟨w.heap.size, 0, none⟩) n n]
      simpa using this, ((Below.refl _ w).alloc (Nat.le_refl _) _).alloc (by simp) _⟩
  have H0 : Hid (TxtRel w l n 0 ((w.alloc (.cells (madeCells #[Value.int .u8 0] n) 5)).alloc (.cells #[.slice (some ⟨w.heap.size, 0, none⟩) n n] 68))) := Lib.hid (by rw [Nat.mul_one] at h0'; exact h0')
  clear h0'
  go_enter Tryz.func54, Tryz.ntmps54
  go_wp2
  clear hmk
  go_loopw [13] (fun i wr => ∃ k : Nat, k ≤ n ∧ i = .int .i64 k ∧ TxtRel w l n k wr) (fun i _ => n - (intOf i).toNat)
  case atStart => exact ⟨0, Nat.zero_le _, rfl, H0.out⟩
  case round =>
    obtain ⟨k, hk, rfl, hr⟩ := hrel
    by_cases hlt : (k : Int) < (n : Int)
    · have hkn : k < l.length := by have := HN.out; omega
      obtain ⟨b, off, cap2, he, hcell⟩ := (HN.out ▸ H.out : Seq w 1 BoR false (.slice a l.length cap) l).at_ hkn
      injection he with e1 e2 e3
      subst e1
      have hc1 := cell_below hcell hr.2.2
      obtain ⟨x, hx⟩ : ∃ x, x = l.getD k false := ⟨_, rfl⟩
      unfold BoR at hcell
      rw [Nat.mul_one] at hc1
      rw [← hx] at hc1
      obtain ⟨u0, q1, q2, q3⟩ := hr.read (j := k) (by omega)
      have P1 := Lib.hid (bits_put (i := k) q3 hlt q1 q2 48 rfl)
      have HR := Lib.hid hr
      have HX := Lib.hid hx
      clear hcell hr hx e2 e3 q1 q2 q3
      have eg : ∀ args w, (callFunc 74 args).run Tryz.prog w = .ok (.enter 74 args) w := enters_of Tryz.func74 (by kernel_rfl) rfl
      cases x with
      | false =>
        go_wp2_with fail
        refine P1.out.mono ?_
        rintro e w1 ⟨rfl, rfl⟩
        have H1 : Hid (TxtRel w l n (k + 1) (wr.setCell ⟨w.heap.size, k, none⟩ (.int .u8 48))) := Lib.hid (HR.out.put1 (by omega) 48 (.inr trivial) (by rw [← HX.out]; rfl))
        go_wp2
        go_roundw
        case rel => exact ⟨k + 1, by omega, by go_num, H1.out⟩
        case measure => simp [intOf]; omega
      | true =>
        go_wp2_with fail
        refine P1.out.mono ?_
        rintro e w1 ⟨rfl, rfl⟩
        have hr2 := HR.out.put0 (show k < n by omega) (.int .u8 48)
        obtain ⟨u0, q1, q2, q3⟩ := hr2.read (j := k) (by omega)
        have P2 := Lib.hid (bits_put (i := k) q3 hlt q1 q2 49 rfl)
        have H1 : Hid (TxtRel w l n (k + 1) ((wr.setCell ⟨w.heap.size, k, none⟩ (.int .u8 48)).setCell ⟨w.heap.size, k, none⟩ (.int .u8 49))) := Lib.hid (hr2.put1 (by omega) 49 (.inr trivial) (by rw [← HX.out]; rfl))
        clear hr2 q1 q2 q3
        go_wp2_with fail
        refine P2.out.mono ?_
        rintro e w2 ⟨rfl, rfl⟩
        go_wp2
        go_roundw
        case rel => exact ⟨k + 1, by omega, by go_num, H1.out⟩
        case measure => simp [intOf]; omega
    · have hkn : k = n := by omega
      rw [hkn] at hr
      obtain ⟨u0, q1, q2, q3⟩ := hr.read (j := 0) (by omega)
      have hcv := HCV.out wr hr
      have HB := Lib.hid hr.2.2
      clear hr q1 q2 hkn
      go_wp2
      go_ret
      exact ⟨rfl, HB.out⟩
theorem bs_snoc (l : List UInt8) (c : UInt8) : bs l ++ (⟨#[c]⟩ : ByteArray) = bs (l ++ [c]) := bs_app l [c]
def truT (l : List Bool) : List UInt8 := if l = [] then [45] else digs l
theorem truT_len (l : List Bool) (h : l.length ≤ 4200) : (truT l).length ≤ 5000 := by
  unfold truT
  split
  · simp
  · unfold digs; rw [List.length_map]; omega
theorem truths_ {w : World} {v : Value} {l : List Bool} (h : Bo w v l) (hl : l.length ≤ 100000) :
    Calls Tryz.prog 27 #[v] w fun e w' => e = .returned (.string (bs (truT l))) ∧ Below w.heap.size w w' := by
  obtain ⟨a, cap, hv, -, -⟩ := h.form
  unfold truT
  by_cases h0 : l = []
  · rw [if_pos h0]
    subst hv
    have c1 : ((l.length : Int) == 0) = true := by rw [h0]; rfl
    have e : bs [45] = ⟨#[45]⟩ := rfl
    rw [e]
    clear e h h0
    go_enter Tryz.func27, Tryz.ntmps27
    go_wp2
    go_ret
    exact ⟨rfl, Below.refl _ _⟩
  · rw [if_neg h0]
    have hlen : 0 < l.length := List.length_pos_iff.2 h0
    have HT := Lib.hid (bits_Text h hl hlen)
    subst hv
    have c1 : ((l.length : Int) == 0) = false := by rw [beq_eq_false_iff_ne]; omega
    generalize bs (digs l) = s at *
    clear h h0
    go_enter Tryz.func27, Tryz.ntmps27
    go_wp2_with fail
    refine HT.out.mono ?_
    rintro e w1 ⟨rfl, hb⟩
    go_wp2
    go_ret
    exact ⟨rfl, hb⟩
end Go.Proofs.YtibinmabdidecaaGreatDoor
