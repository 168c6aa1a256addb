/-
  Package scan: New; package cnf: Parse.
-/
import Derived.Test.YtnpmaphedcfnnaaDoorScD
import Derived.Test.YtnpmaphedcfnnaaDoorClone
namespace Go.Proofs.YtnpmaphedcfnnaaDoor
open Go.ChangeShapes Go.WideShapes Go.ChangeAt Go.RowKit
set_option linter.unusedVariables false
def byv (c : UInt8) : Value := .int .u8 (c.toNat : Int)
theorem infoU8 : (Tryd.prog.info? 5).map (fun i => (i.zero, i.size, i.bytes)) = some (some (.int .u8 0), 1, 1) := by kernel_rfl
theorem row_by {w : World} {v : Value} {l : List UInt8} (h : Row w 5 1 v l.length (l.map byv)) : By w v l := by
  rcases h.form with ⟨rfl, h0, -⟩ | ⟨g, cap, rfl, h1, h2, -, hc⟩
  · have : l = [] := List.eq_nil_of_length_eq_zero h0
    subst this
    exact Seq.nil _ _ _ _
  · refine ⟨_, cap, rfl, h1, h2, .inr ⟨g, 0, rfl, fun j hj => ?_⟩⟩
    obtain ⟨c1, -⟩ := hc j (by simpa using hj)
    unfold ByR
    rw [Nat.zero_add, Nat.mul_one, c1]
    simp [List.getD, hj, byv]
/-- A slice of bytes as an argument: nil has no room. -/
def ByA (w : World) (v : Value) (l : List UInt8) : Prop := By w v l ∧ ∀ n c, v = .slice none n c → c = 0
theorem ByA.below {w w' : World} {v : Value} {l : List UInt8} (h : ByA w v l) (hb : Below w.heap.size w w') : ByA w' v l := ⟨h.1.below stays_by hb, h.2⟩
set_option maxHeartbeats 400000 in
theorem bytes_Clone {w : World} {v : Value} {l : List UInt8} (h : ByA w v l) (hl : l.length ≤ 1099511627776) : Calls Tryd.prog 67 #[v] w fun e w' => ∃ u, e = .returned u ∧ By w' u l ∧ (∀ g, u.ownBlock = some g → w.heap.size ≤ g) ∧ (∀ g, u.ownBlock = some g → g < w'.heap.size) ∧ Below w.heap.size w w' := by
  obtain ⟨⟨a, cap, rfl, h1, h2, h3⟩, hn⟩ := h
  have hb := fun W => Lib.run_eql_slice_nil (P := Tryd.prog) W 52 5 a l.length cap 0 0 Tryd.underlying52
  cases a with
  | none =>
    have hl0 : l = [] := h3.elim id (fun ⟨b, off, e, _⟩ => by cases e)
    subst hl0
    have hc := hn _ _ rfl
    subst hc
    clear hn h1 h2 h3
    have hb2 : ∀ W : World, _ := fun W => Lib.run_eql_slice_nil (P := Tryd.prog) W 52 5 none 0 0 0 0 Tryd.underlying52
    clear hb
    show Calls Tryd.prog 67 #[.slice none 0 0] w _
    go_enter Tryd.func67, Tryd.ntmps67
    go_wp2
    go_ret
    exact ⟨_, rfl, Seq.nil _ _ _ _, fun g hg => by simp [Value.ownBlock] at hg, fun g hg => by simp [Value.ownBlock] at hg, Below.refl _ _⟩
  | some ad =>
    have hcell : ∀ j u, (l.map byv)[j]? = some u → w.cell? (ad.add j) = some u := by
      intro j u hu
      have hj : j < l.length := by have := (List.getElem?_eq_some_iff.1 hu).1; simpa using this
      rcases h3 with h3 | ⟨b, off, e, hc⟩
      · rw [h3] at hj; simp at hj
      · injection e with e
        subst e
        have := hc j hj
        unfold ByR at this
        rw [Nat.mul_one] at this
        rw [show (⟨b, off, none⟩ : Addr).add j = ⟨b, off + j, none⟩ by simp [Addr.add], this, ← hu]
        simp [List.getD, hj, byv]
    have HH := Lib.hid hcell
    clear hcell h3 h1 h2 hn
    go_enter Tryd.func67, Tryd.ntmps67
    go_wp2_with (at_builtin; refine wpList_appA rfl _ _ _ rfl 5 (.int .u8 0) 1 1 Tryd.underlying52 infoU8 rfl (by decide) (.slice (some ⟨w.heap.size, 0, none⟩) 0 0) 0 [] rfl ?ho ad l.length cap (l.map byv) rfl ?hl ?hn ?hs ?c1 ?c2 ?_)
    case ho => exact ⟨by simp, .inr ⟨w.heap.size, 0, #[], rfl, Nat.zero_le _, heap_alloc_new w _, Nat.le_refl _, by simp, by simp, by simp⟩⟩
    case hl => simp
    case hn =>
      intro j u hu
      have := HH.out j u hu
      exact (Below.cell ((Below.refl _ w).alloc (Nat.le_refl _) _) (World.block_lt_of_cell? w _ this)).trans this
    case hs => intro u hu; simp at hu; obtain ⟨x, -, rfl⟩ := hu; rfl
    case c1 => unfold maxLen; omega
    case c2 => omega
    intro v' w' hp
    have HP := Lib.hid hp
    clear hp
    go_wp2
    go_ret
    obtain ⟨p1, p2, p3⟩ := HP.out
    refine ⟨v', rfl, row_by (by simpa using p1), fun k hk => ?_, fun g hg => Row.lt p1 g hg, ?_⟩
    · rcases p3 with e | e
      · rw [e] at hk; simp [Value.ownBlock] at hk; omega
      · rw [e] at hk; simp at hk; omega
    · exact ((Below.refl _ w).alloc (Nat.le_refl _) _).trans (p2.below (by simp) (fun i hi => by simp [Value.ownBlock] at hi; omega))
theorem scan_New {w : World} {v : Value} {l : List UInt8} (h : ByA w v l) (hl : l.length ≤ 100000) : Calls Tryd.prog 50 #[v] w fun e w' => ∃ r, e = .returned (.pointer (some ⟨r, 0, none⟩)) ∧ ScanAt w' r l 0 ∧ w.heap.size ≤ r ∧ Below w.heap.size w w' := by
  have HC := Lib.hid (bytes_Clone h (by omega))
  clear h
  go_enter Tryd.func50, Tryd.ntmps50
  go_wp2_with fail
  refine HC.out.mono ?_
  rintro e w1 ⟨u, rfl, h1, h2, h3, h4⟩
  have H1 := Lib.hid h1
  have H3 := Lib.hid h3
  have H4 := Lib.hid h4
  obtain ⟨a, cap, rfl, -, -⟩ := h1.form
  clear h1 h2 h3 h4
  go_wp2
  go_ret
  exact ⟨_, rfl, ⟨_, Blk.new w1 111 _, H1.out.below stays_by (below_new1 w1 _), Nat.zero_le _, hl, H3.out⟩, H4.out.size, H4.out.trans ((below_new1 w1 _).mono H4.out.size)⟩
end Go.Proofs.YtnpmaphedcfnnaaDoor
/-
  Package cnf: Parse.
-/
namespace Go.Proofs.YtnpmaphedcfnnaaDoor
open Go.ChangeShapes Go.WideShapes Go.ChangeAt Go.RowKit
set_option linter.unusedVariables false
def ParsePost (w : World) (o : Except Wrong (Nat × List (List Int))) (e : Ending) (w' : World) : Prop :=
  Below w.heap.size w w' ∧ match o with
  | .ok (n, L) => ∃ f fp B, e = .returned (.tuple #[.pointer (some ⟨f, 0, none⟩), .int .i64 0, .int .i64 0]) ∧ FAtF fp B w' f (n : Int) L ∧ w.heap.size ≤ B ∧ ∀ g, fp g → w.heap.size ≤ g
  | .error (f, p) => e = .returned (.tuple #[.pointer none, .int .i64 (p : Int), .int .i64 (f : Int)])
theorem parse_err {w w1 : World} {o : Except Wrong (Nat × List (List Int))} {f p : Nat} {x : Value} (ho : o = .error (f, p)) (hx : x = .tuple #[.pointer none, .int .i64 (p : Int), .int .i64 (f : Int)]) (h1 : Below w.heap.size w w1) : ParsePost w o (.returned x) w1 := by
  subst ho hx
  exact ⟨h1, rfl⟩
theorem parse_ok {w w1 : World} {f n B : Nat} {fp : Nat → Prop} {L : List (List Int)} {o : Except Wrong (Nat × List (List Int))} {x : Value} (ho : o = .ok (n, L)) (hx : x = .tuple #[.pointer (some ⟨f, 0, none⟩), .int .i64 0, .int .i64 0]) (h1 : Below w.heap.size w w1) (hf : FAtF fp B w1 f (n : Int) L) (hB : w.heap.size ≤ B) (hfp : ∀ g, fp g → w.heap.size ≤ g) : ParsePost w o (.returned x) w1 := by
  subst ho hx
  exact ⟨h1, _, _, _, rfl, hf, hB, hfp⟩
theorem lift_below {w wa wb : World} {r : Nat} (h1 : Below w.heap.size w wa) (hr : w.heap.size ≤ r) (hc : Chg (fun i => i = r) wa wb) : Below w.heap.size w wb :=
  h1.trans (hc.below h1.size (fun i hi => by omega))
theorem Told_B {w : World} {v : Value} {f p : Nat} (hL : Laid w) (h : Bad w f p v) : Calls Tryd.prog 53 #[v] w fun e w' => e = .returned (.tuple #[.int .i64 (f : Int), .int .i64 (p : Int)]) ∧ Below w.heap.size w w' := by
  obtain ⟨ch, h1, h2, h3⟩ := h
  have := Told_C hL h1
  rw [h3] at this
  exact this
set_option maxHeartbeats 1000000 in
theorem Parse_ {w : World} {v : Value} {l : List UInt8} (hL : Laid w) (h : ByA w v l) (hl : l.length ≤ 100000) (o : Except Wrong (Nat × List (List Int))) (ho : parseF l = o) : Calls Tryd.prog 27 #[v] w (ParsePost w o) := by
  have HN := Lib.hid (scan_New h hl)
  have HL := Lib.hid hL
  have HO := Lib.hid ho
  clear h hL ho
  go_enter Tryd.func27, Tryd.ntmps27
  go_wp2_with fail
  refine HN.out.mono ?_
  rintro e w1 ⟨r, rfl, hs1, hr1, hb1⟩
  have hlr : r < w1.heap.size := hs1.choose_spec.1.lt
  have hb0 := below_new1 w1 (.cells #[.pointer (some ⟨r, 0, none⟩)] 87)
  have HB1 := Lib.hid hb1
  have HBX := Lib.hid (hb1.trans (hb0.mono hb1.size))
  have HW := Lib.hid (Want_ (hs1.below hb0) ⟨#[112, 32, 99, 110, 102, 32]⟩ (by decide) _ rfl)
  have HLX := Lib.hid ((HL.out.below hb1).below hb0)
  have hr0 : 0 < r := by have := HL.out.2; omega
  have hfr : (w1.alloc (.cells #[.pointer (some ⟨r, 0, none⟩)] 87)).cell? ⟨w1.heap.size, 0, none⟩ = some (.pointer (some ⟨r, 0, none⟩)) := (Blk.new w1 _ _).cell 0
  clear hs1 hb1 hb0
  have ho := HO.out
  unfold parseF at ho
  rw [show (⟨#[112, 32, 99, 110, 102, 32]⟩ : ByteArray).data.toList = headB from rfl] at HW
  cases hw : wantF headB l 0 with
  | some x =>
    obtain ⟨fx, px⟩ := x
    rw [hw] at HW ho
    have hf := wantG_err hw
    have hfn : ((fx : Int) != 0) = true := by simp; omega
    have HOO := Lib.hid ho.symm
    have HWW := HW
    clear HW hw ho hf
    go_wp2_with fail
    refine HWW.out.mono ?_
    rintro e w2 ⟨rfl, -, hc2⟩
    have HC2 := Lib.hid (lift_below HBX.out hr1 hc2)
    clear hc2
    go_wp2
    go_returns
    exact parse_err HOO.out rfl HC2.out
  | none =>
    rw [hw] at HW ho
    simp only at ho
    have HO2 := Lib.hid ho
    have HWW := HW
    clear HW hw ho
    go_wp2_with fail
    refine HWW.out.mono ?_
    rintro e w2 ⟨rfl, hs2, hc2⟩
    have HC2 := Lib.hid (lift_below HBX.out hr1 hc2)
    have bx2 := box_cell hlr hc2
    have hL2 := HLX.out.chg_r hr0 hc2
    have HLL2 := Lib.hid hL2
    have HF := Lib.hid (formula_ hL2 hr0 hs2 _ rfl)
    clear hc2 hs2 hL2
    have ho := HO2.out
    rw [show (0 + (⟨#[112, 32, 99, 110, 102, 32]⟩ : ByteArray).size) = 6 from rfl] at HF
    cases hf : formF l 6 with
    | error x =>
      obtain ⟨fx, px⟩ := x
      rw [hf] at HF ho
      have HOO := Lib.hid ho.symm
      have HFF := HF
      clear HF hf ho
      go_wp2_with fail
      refine HFF.out.mono ?_
      rintro e w3 ⟨hc3, v3, rfl, hbad⟩
      have HC3 := Lib.hid (lift_below HC2.out hr1 hc3)
      have HT := Lib.hid (Told_B (HLL2.out.chg_r hr0 hc3) hbad)
      obtain ⟨x, rfl⟩ := hbad.iface
      clear hc3 hbad
      go_wp2_with fail
      refine HT.out.mono ?_
      rintro e w4 ⟨rfl, hb4⟩
      have HB4 := Lib.hid hb4
      clear hb4
      go_wp2
      go_returns
      exact parse_err HOO.out rfl (HC3.out.trans (HB4.out.mono HC3.out.size))
    | ok q =>
      obtain ⟨n, L⟩ := q
      rw [hf] at HF ho
      have HOO := Lib.hid ho.symm
      have HFF := HF
      clear HF hf ho
      go_wp2_with fail
      refine HFF.out.mono ?_
      rintro e w3 ⟨hc3, f, fp, B, rfl, hf3, hB3, hfp3⟩
      have HC3 := Lib.hid (lift_below HC2.out hr1 hc3)
      have HF3 := Lib.hid hf3
      have HFP := Lib.hid hfp3
      have hs2 : w.heap.size ≤ w2.heap.size := HC2.out.size
      clear hc3 hf3 hfp3
      go_wp2
      go_returns
      exact parse_ok HOO.out rfl HC3.out HF3.out (by omega) (fun g hg => by have := HFP.out g hg; omega)
end Go.Proofs.YtnpmaphedcfnnaaDoor
