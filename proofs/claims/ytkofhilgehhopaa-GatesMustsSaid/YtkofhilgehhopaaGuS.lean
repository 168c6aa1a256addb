/-
  Package gates: the text of literals, walked.
-/
import Derived.Test.YtkofhilgehhopaaGuR
import Derived.Test.YtkofhilgehhopaaGuA
import Derived.Test.YtkofhilgehhopaaOwnB
namespace Go.Proofs.Ytkofhilgehhopaa
open Go Go.ChangeShapes Go.WideShapes Go.ChangeAt Go.RowKit Go.Maps
set_option linter.unusedVariables false
set_option linter.unusedSimpArgs false
theorem infoY : (Try.prog.info? 5).map (fun i => (i.zero, i.size, i.bytes)) = some (some (.int .u8 0), 1, 1) := by kernel_rfl
def yv (b : UInt8) : Value := .int .u8 (b.toNat : Int)
/-- A list of bytes of the call's own. -/
def OwnY (w wr : World) (out : Value) (l : List UInt8) : Prop := Row wr 5 1 out l.length (l.map yv) ∧ Below w.heap.size w wr ∧ ∀ g, out.ownBlock = some g → w.heap.size ≤ g
theorem OwnY.start (w : World) : OwnY w w (.slice none 0 0) [] := ⟨World.ownsRow_nil _ _ _ _, Below.refl _ _, fun k hk => by simp [Value.ownBlock] at hk⟩
theorem OwnY.app {w wr w' : World} {v v' : Value} {xs : List UInt8} {y : UInt8} {u : Value} (hu : u = yv y) (h : OwnY w wr v xs) (hp : AppPost (wr.alloc (.cells #[u] 5)) 5 1 v (xs.length + 1) (xs.map yv ++ [u]) v' w') : OwnY w w' v' (xs ++ [y]) := by
  subst hu
  obtain ⟨p1, p2, p3⟩ := hp
  have hA : Below wr.heap.size wr (wr.alloc (.cells #[yv y] 5)) := (Below.refl _ _).alloc (Nat.le_refl _) _
  have hs := h.2.1.size
  refine ⟨by rw [List.length_append, List.map_append]; exact p1, (h.2.1.trans (hA.mono hs)).trans (p2.below (by simp; omega) (fun i hi => h.2.2 i hi)), fun g hg => ?_⟩
  rcases p3 with e | e
  · rw [e] at hg; exact h.2.2 g hg
  · rw [e] at hg; simp at hg; omega
theorem OwnY.below {w wr wx : World} {out : Value} {xs : List UInt8} (h : OwnY w wr out xs) (hb : Below wr.heap.size wr wx) : OwnY w wx out xs :=
  ⟨h.1.chg (S := fun _ => False) (Chg.of_below hb) (fun _ _ h => h), h.2.1.trans (hb.mono h.2.1.size), h.2.2⟩
theorem OwnY.conv {w wr : World} {v : Value} {l : List UInt8} (h : OwnY w wr v l) : (convert 91 9 v).run Try.prog wr = .ok (.string ⟨l.toArray⟩) wr := by
  rcases h.1.form with ⟨rfl, h0, h1⟩ | ⟨g, cap, rfl, -, -, -, hc⟩
  · have : l = [] := List.eq_nil_of_length_eq_zero h0
    subst this
    exact run_convert_bytes_nil wr _ _ Try.underlying91 Try.underlying5 0 0 _ Try.underlying9
  · refine run_convert_bytes_back wr 91 9 5 ⟨g, 0, none⟩ cap l Try.underlying91 Try.underlying5 Try.underlying9 (fun j hj => ?_)
    obtain ⟨c1, c2⟩ := hc j (by simpa using hj)
    have : (⟨g, 0, none⟩ : Addr).add j = ⟨g, j, none⟩ := by unfold Addr.add; split <;> simp_all
    rw [this, c1]
    simp [List.getD, hj, yv]
theorem byte4_take (x : Int) (j : Nat) (hj : j < 4) {y : Int} (hy : y = x / (256 ^ j : Nat)) : (byte4 x).take (j + 1) = (byte4 x).take j ++ [UInt8.ofNat (y % 256).toNat] := by
  subst hy
  rcases (show j = 0 ∨ j = 1 ∨ j = 2 ∨ j = 3 by omega) with rfl | rfl | rfl | rfl <;> simp [byte4]
theorem u8_byte (y : Int) : Value.int .u8 (y % 256) = yv (UInt8.ofNat (y % 256).toNat) := by
  unfold yv
  congr 1
  simp [UInt8.toNat_ofNat]
  omega
theorem shift_pow (x : Int) (j : Nat) : x / (256 ^ j : Nat) / 256 = x / (256 ^ (j + 1) : Nat) := by
  rw [Int.ediv_ediv_of_nonneg (Int.natCast_nonneg _), Nat.pow_succ]
  rfl
theorem in32_div {x : Int} (h : in32 x) {j : Nat} (hj : j ≤ 4) : in32 (x / (256 ^ j : Nat)) := by
  unfold in32 at *
  rcases (show j = 0 ∨ j = 1 ∨ j = 2 ∨ j = 3 ∨ j = 4 by omega) with rfl | rfl | rfl | rfl | rfl <;> simp <;> omega
theorem textB_snoc (l : List Int) (x : Int) : textB (l ++ [x]) = textB l ++ byte4 x := by simp [textB]
theorem textB_len (l : List Int) : (textB l).length = 4 * l.length := by
  induction l with
  | nil => rfl
  | cons x l ih => rw [show textB (x :: l) = byte4 x ++ textB l from rfl, List.length_append, ih]; simp [byte4]; omega
set_option maxHeartbeats 4000000 in
set_option maxRecDepth 100000 in
theorem text_ {w : World} {v : Value} {c : List Int} (h : Ints w v c) (hlen : c.length ≤ 1000) (h32 : ∀ x ∈ c, in32 x) :
    Calls Try.prog 43 #[v] w fun e w' => e = .returned (.string ⟨(textB c).toArray⟩) ∧ Below w.heap.size w w' := by
  obtain ⟨a, cap, rfl, -, hc1, hc2, hv⟩ := h
  obtain ⟨n, hn⟩ : ∃ n, n = c.length := ⟨_, rfl⟩
  rw [← hn] at hc1 hlen ⊢
  have HV := Lib.hid hv
  have HN := Lib.hid hn
  have H32 := Lib.hid h32
  have hln : (n : Int) ≤ 1000 := by omega
  clear hv hn hc1 hc2 h32 hlen
  go_enter Try.func43, Try.ntmps43
  go_wp2
  go_loopw [3, 8] (fun out i wr => ∃ k : Nat, k ≤ n ∧ i = .int .i64 (k : Nat) ∧ OwnY w wr out (textB (c.take k))) (fun _ i _ => n - (intOf i).toNat)
  case atStart => exact ⟨0, Nat.zero_le _, rfl, OwnY.start w⟩
  case round =>
    obtain ⟨k, hk, rfl, hO⟩ := hrel
    have HO := Lib.hid hO
    by_cases hlt : (k : Int) < (n : Int)
    · have hkn : k < c.length := by have := HN.out; omega
      obtain ⟨b, off, rfl, hcell⟩ := ints_cells HV.out hkn
      have q1 := hcell wr hO.2.1
      obtain ⟨x, hx⟩ : ∃ x, x = c.getD k 0 := ⟨_, rfl⟩
      rw [← hx] at q1
      have hx32 : in32 x := H32.out x (by rw [hx]; simp [List.getD, hkn])
      obtain ⟨x0, x1⟩ := hx32
      have HS : Hid (textB (c.take (k + 1)) = textB (c.take k) ++ byte4 x) := Lib.hid (by
        rw [List.take_succ_eq_append_getElem hkn, textB_snoc, hx, List.getD_eq_getElem?_getD, List.getElem?_eq_getElem hkn]; rfl)
      have HL : Hid ((textB (c.take k)).length ≤ 4000) := Lib.hid (by rw [textB_len, List.length_take]; omega)
      clear hO hx hkn hcell
      go_wp2
      go_loopw [3, 5, 12] (fun out y i wr => ∃ j : Nat, j ≤ 4 ∧ i = .int .i64 (j : Nat) ∧ (∃ z : Int, y = .int .i64 z ∧ z = x / (256 ^ j : Nat)) ∧ OwnY w wr out (textB (c.take k) ++ (byte4 x).take j)) (fun _ _ i _ => 4 - (intOf i).toNat)
      case atStart => exact ⟨0, Nat.zero_le _, rfl, ⟨x, rfl, by simp⟩, by simpa using HO.out⟩
      case round =>
        obtain ⟨j, hj, rfl, ⟨z, rfl, hz⟩, hO2⟩ := hrel
        have HZ := Lib.hid hz
        have HO2 := Lib.hid hO2
        clear hO2
        by_cases hj4 : (j : Int) < 4
        · obtain ⟨z0, z1⟩ : in32 z := by rw [hz]; exact in32_div ⟨x0, x1⟩ hj
          have HB4 : Hid ((byte4 x).take (j + 1) = (byte4 x).take j ++ [UInt8.ofNat (z % 256).toNat]) := Lib.hid (byte4_take x j (by omega) hz)
          have hzn : z / 256 = x / (256 ^ (j + 1) : Nat) := by rw [hz]; exact shift_pow x j
          have HZN := Lib.hid hzn
          have HLJ : Hid (((byte4 x).take j).length ≤ 4) := Lib.hid (by rw [List.length_take]; omega)
          clear hz hzn
          obtain ⟨cur, hcur⟩ : ∃ cur, cur = textB (c.take k) ++ (byte4 x).take j := ⟨_, rfl⟩
          have HCL : Hid (cur.length ≤ 5000) := Lib.hid (by rw [hcur, List.length_append]; have := HL.out; have := HLJ.out; omega)
          rw [← hcur] at HO2
          have HCU := Lib.hid hcur
          clear hcur
          go_wp2_with (at_builtin; refine wpList_app rfl _ _ _ rfl 5 (.int .u8 0) 1 1 Try.underlying91 infoY rfl (by decide) _ cur.length (cur.map yv) rfl ?ho wr.heap.size 0 1 1 [.int .u8 (z % 256)] rfl rfl ?hn ?hs ?c1 ?c2 ?_)
          case ho => exact HO2.out.1.alloc _
          case hn => exact cellNew _ _ _ _ rfl
          case hs => exact oneCell1 rfl
          case c1 => unfold maxLen; have := HCL.out; omega
          case c2 => have := HCL.out; omega
          intro v' w3 hp3
          have HF : Hid (OwnY w w3 v' (textB (c.take k) ++ (byte4 x).take (j + 1))) := Lib.hid (by
            have := HO2.out.app (u8_byte z) hp3
            rw [HB4.out, ← List.append_assoc, ← HCU.out]
            exact this)
          clear hp3
          go_wp2
          go_roundw
          case rel => exact ⟨j + 1, by omega, by go_num, ⟨z / 256, rfl, HZN.out⟩, HF.out⟩
          case measure => simp [intOf]; omega
        · have hj5 : j = 4 := by omega
          have HF : Hid (OwnY w wr u3 (textB (c.take (k + 1)))) := Lib.hid (by
            have := HO2.out
            rw [hj5, show (byte4 x).take 4 = byte4 x by simp [byte4]] at this
            rw [HS.out]; exact this)
          clear hz hj5
          go_wp2
          go_roundw
          case rel => exact ⟨k + 1, by omega, by go_num, HF.out⟩
          case measure => simp [intOf]; omega
    · have HF : Hid (c.take k = c) := Lib.hid (by rw [List.take_of_length_le (by have := HN.out; omega)])
      have hcv := hO.conv
      rw [HF.out] at hcv
      have HB := Lib.hid hO.2.1
      clear hO
      go_wp2
      go_ret
      exact ⟨rfl, HB.out⟩
end Go.Proofs.Ytkofhilgehhopaa
