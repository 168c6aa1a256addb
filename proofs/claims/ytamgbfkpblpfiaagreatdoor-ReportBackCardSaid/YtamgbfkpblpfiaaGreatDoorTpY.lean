/-
  Light witnesses: how long their texts are; Light walked with what it tells.
-/
import Derived.Test.YtamgbfkpblpfiaaGreatDoorTrI
import Derived.Test.YtamgbfkpblpfiaaGreatDoorTrE
namespace Go.Proofs.YtamgbfkpblpfiaaGreatDoor
open Go.ChangeShapes Go.WideShapes Go.ChangeAt Go.RowKit
set_option linter.unusedVariables false
set_option linter.unusedSimpArgs false
def prT (d : TrD) : List UInt8 := if rightT d then printT d else []
def prF (d : TrD) : Int := if rightT d then 0 else 14
theorem trace_Print {w : World} {d : TrD} {vl vm vi : Value} (h : TrP w d vl vm vi) (ht : Tab w) : Calls Tryz.prog 33 #[trV d vl vm vi] w fun e w' => e = .returned (.tuple #[.string (bs (prT d)), .int .i64 (prF d)]) ∧ Below w.heap.size w w' := by
  unfold prT prF
  cases hd : rightT d
  · exact trace_Print_no h hd
  · exact trace_Print_yes h hd ht
def LightB (d : TrD) : Prop := d.mems.length ≤ 10 ∧ d.ins.length ≤ 40 ∧ (∀ k, k < d.mems.length → (d.mems.getD k []).length ≤ 100) ∧ (∀ k, k < d.ins.length → (d.ins.getD k []).length ≤ 200)
theorem cell_len70 {i : Nat} (hi : i < 100) {c : Int × Int} (h : wf c.1 ∧ wf c.2) : (cellT i c).length ≤ 70 := by
  have h1 := decT_len (n := (i : Int)) (by omega)
  have h2 := decT_len (n := c.1) h.1.2
  have h3 := decT_len (n := c.2) h.2.2
  unfold cellT lineT wordT
  simp
  omega
theorem mem_len70 {i : Nat} (hi : i < 100) : ∀ {cs : CS}, (∀ p ∈ cs, wf p.1 ∧ wf p.2) → (cs.flatMap (cellT i)).length ≤ cs.length * 70
  | [], _ => by simp
  | c :: cs, h => by
    have h1 := cell_len70 hi (h c (List.mem_cons_self ..))
    have h2 := mem_len70 hi (fun p hp => h p (List.mem_cons_of_mem _ hp))
    rw [List.flatMap_cons, List.length_append, List.length_cons]
    omega
theorem mems_len70 {mems : List CS} (hw : ∀ m ∈ mems, ∀ p ∈ m, wf p.1 ∧ wf p.2) (hl : ∀ k, k < mems.length → (mems.getD k []).length ≤ 100) : ∀ k, k ≤ mems.length → k ≤ 4 → (memsT mems k).length ≤ k * 7000
  | 0, _, _ => by simp [memsT]
  | k + 1, hk, h4 => by
    have ih := mems_len70 hw hl k (by omega) (by omega)
    have e : memsT mems (k + 1) = memsT mems k ++ memT k (mems.getD k []) := by unfold memsT; rw [List.range_succ, List.flatMap_append]; simp
    have h1 := hl k (by omega)
    have hm : mems.getD k [] ∈ mems := by
      rw [List.getD_eq_getElem?_getD, List.getElem?_eq_getElem (by omega)]
      exact List.getElem_mem _
    have h2 : (memT k (mems.getD k [])).length ≤ (mems.getD k []).length * 70 := mem_len70 (by omega) (hw _ hm)
    rw [e, List.length_append]
    omega
theorem cyc_len210 {l : List Bool} (h : l.length ≤ 200) : (cycT l).length ≤ 210 := by
  have h1 : (truT l).length ≤ 200 := by
    unfold truT
    split
    · simp
    · unfold digs
      rw [List.length_map]
      exact h
  unfold cycT lineT wordT
  simp
  omega
theorem cycs_len210 : ∀ {ins : List (List Bool)}, (∀ l ∈ ins, l.length ≤ 200) → (ins.flatMap cycT).length ≤ ins.length * 210
  | [], _ => by simp
  | l :: ins, h => by
    have h1 := cyc_len210 (h l (List.mem_cons_self ..))
    have h2 := cycs_len210 (fun x hx => h x (List.mem_cons_of_mem _ hx))
    rw [List.flatMap_cons, List.length_append, List.length_cons]
    omega
theorem print_len45 {d : TrD} (hL : LightB d) (hr : rightT d = true) (hw : ∀ m ∈ d.mems, ∀ p ∈ m, wf p.1 ∧ wf p.2) : (printT d).length ≤ 45000 := by
  obtain ⟨l1, l2, l3, l4⟩ := hL
  obtain ⟨b1, b2, b3, b4, b5, -, -⟩ := right_parts hr
  have h1 := headT_len (d := d) b1 (by omega)
  have h2 := mems_len70 hw l3 d.mems.length (Nat.le_refl _) b2
  have h3 := cycs_len210 (ins := d.ins) (fun l hl => by
    obtain ⟨k, hk, rfl⟩ := List.mem_iff_getElem.1 hl
    have := l4 k hk
    rwa [List.getD_eq_getElem?_getD, List.getElem?_eq_getElem hk] at this)
  have h4 := decT_len (n := d.bad) (by omega)
  have h5 : d.mems.length * 7000 ≤ 28000 := by omega
  have h6 : d.ins.length * 210 ≤ 8400 := by omega
  unfold printT
  rw [List.length_append, List.length_append, List.length_append]
  have h7 : (lineT [98, 97, 100] [decT d.bad]).length ≤ 30 := by unfold lineT wordT; simp; omega
  omega
theorem print_len {d : TrD} (hL : LightB d) (hr : rightT d = true) (hw : ∀ m ∈ d.mems, ∀ p ∈ m, wf p.1 ∧ wf p.2) : (printT d).length ≤ 50000 := Nat.le_trans (print_len45 hL hr hw) (by decide)
def LightQ (w : World) (d : TrD) (e : Ending) (w' : World) : Prop := (∃ b : Bool, e = .returned (.bool b) ∧ (b = true → LightB d)) ∧ Below w.heap.size w w'
set_option maxHeartbeats 2000000 in
theorem lightB_ {w : World} {d : TrD} {vl vm vi : Value} (h : TrP w d vl vm vi) : Calls Tryz.prog 29 #[trV d vl vm vi] w (LightQ w d) := by
  have H := Lib.hid h
  obtain ⟨a1, c1, rfl⟩ := h.lat.len
  obtain ⟨a2, c2, rfl, hm1, hm2⟩ := h.mems.form
  obtain ⟨a3, c3, rfl, hi1, hi2⟩ := h.ins.form
  clear h
  unfold trV
  obtain ⟨n1, hn1⟩ : ∃ n, n = d.lat.length := ⟨_, rfl⟩
  obtain ⟨n2, hn2⟩ : ∃ n, n = d.mems.length := ⟨_, rfl⟩
  obtain ⟨n3, hn3⟩ : ∃ n, n = d.ins.length := ⟨_, rfl⟩
  obtain ⟨bad, hbad⟩ : ∃ n, n = d.bad := ⟨_, rfl⟩
  rw [← hn1, ← hn2, ← hn3] at H ⊢
  rw [← hbad]
  rw [← hn2] at hm1
  rw [← hn3] at hi1
  obtain ⟨D, hD⟩ : ∃ D, D = d := ⟨_, rfl⟩
  subst hD
  have N2 := Lib.hid hn2
  have N3 := Lib.hid hn3
  have g2 : n2 ≤ 9223372036854775807 := Nat.le_trans hm1 hm2
  have g3 : n3 ≤ 9223372036854775807 := Nat.le_trans hi1 hi2
  have HFF : Hid (∀ W, Below w.heap.size w W → LightQ w D (.returned (.bool false)) W) := Lib.hid fun W hW => ⟨⟨false, rfl, fun h => by cases h⟩, hW⟩
  have q := Blk.new w 30 #[.slice a1 n1 c1, .slice a2 n2 c2, .slice a3 n3 c3, .int .i64 bad]
  have hb0 : Below w.heap.size w (w.alloc (.cells #[.slice a1 n1 c1, .slice a2 n2 c2, .slice a3 n3 c3, .int .i64 bad] 30)) := (Below.refl _ _).alloc (Nat.le_refl _) _
  have Q := Lib.hid q
  have HB0 := Lib.hid hb0
  clear hn1 hn2 hn3 hbad q hb0 hm1 hm2 hi1 hi2
  by_cases hs : n2 ≤ 10 ∧ n3 ≤ 40
  · obtain ⟨hs2, hs3⟩ := hs
    have t2 : decide ((10 : Int) < (n2 : Int)) = false := decide_eq_false (by omega)
    have t3 : decide ((40 : Int) < (n3 : Int)) = false := decide_eq_false (by omega)
    by_cases hs1 : (4200 : Int) < (n1 : Int)
    · go_enter Tryz.func29, Tryz.ntmps29
      go_wp2
      go_ret
      exact HFF.out _ HB0.out
    · go_enter Tryz.func29, Tryz.ntmps29
      go_wp2
      go_loopw [3] (fun i wr => ∃ k : Nat, k ≤ n2 ∧ i = .int .i64 k ∧ wr = w.alloc (.cells #[.slice a1 n1 c1, .slice a2 n2 c2, .slice a3 n3 c3, .int .i64 bad] 30) ∧ (∀ j, j < k → (D.mems.getD j []).length ≤ 100)) (fun i _ => n2 - (intOf i).toNat)
      case atStart => exact ⟨0, Nat.zero_le _, rfl, rfl, fun j hj => absurd hj (by omega)⟩
      case round =>
        obtain ⟨k, hk, rfl, rfl, hall⟩ := hrel
        have HALL := Lib.hid hall
        clear hall
        have k1 := Q.out.cell 1
        have k2 := Q.out.cell 2
        by_cases hlt : (k : Int) < (n2 : Int)
        · have hkn : k < D.mems.length := by have := N2.out; omega
          obtain ⟨b, off, cap2, he, u, hcell, hp⟩ := H.out.mems.at_ hkn
          injection he with e1 e2 e3
          subst e1
          obtain ⟨pa, pc, rfl, -, -⟩ := pairs_lens hp
          have hc1 := cell_below hcell HB0.out
          rw [Nat.mul_one] at hc1
          obtain ⟨m, hmm⟩ : ∃ m, m = (D.mems.getD k []).length := ⟨_, rfl⟩
          rw [← hmm] at hc1
          have HMM := Lib.hid hmm
          clear hcell hp e2 e3 hmm
          by_cases hm : (100 : Int) < (m : Int)
          · go_wp2
            go_ret
            exact HFF.out _ HB0.out
          · go_wp2
            go_roundw
            case rel => exact ⟨k + 1, by omega, by go_num, trivial, fun j hj => by
              by_cases e : j = k
              · subst e; have := HMM.out; omega
              · exact HALL.out j (by omega)⟩
            case measure => simp [intOf]; omega
        · have hkk : k = n2 := by omega
          have HA2 : Hid (∀ j, j < D.mems.length → (D.mems.getD j []).length ≤ 100) := Lib.hid fun j hj => HALL.out j (by have := N2.out; omega)
          clear hk hkk
          go_wp2
          go_loopw [4] (fun i wr => ∃ k : Nat, k ≤ n3 ∧ i = .int .i64 k ∧ wr = w.alloc (.cells #[.slice a1 n1 c1, .slice a2 n2 c2, .slice a3 n3 c3, .int .i64 bad] 30) ∧ (∀ j, j < k → (D.ins.getD j []).length ≤ 200)) (fun i _ => n3 - (intOf i).toNat)
          case atStart => exact ⟨0, Nat.zero_le _, rfl, rfl, fun j hj => absurd hj (by omega)⟩
          case round =>
            obtain ⟨j, hj, rfl, rfl, hall⟩ := hrel
            have HALL2 := Lib.hid hall
            clear hall
            by_cases hlj : (j : Int) < (n3 : Int)
            · have hkn : j < D.ins.length := by have := N3.out; omega
              obtain ⟨b, off, cap2, he, u, hcell, hp⟩ := H.out.ins.at_ hkn
              injection he with e1 e2 e3
              subst e1
              obtain ⟨pa, pc, rfl⟩ := hp.len
              have hc1 := cell_below hcell HB0.out
              rw [Nat.mul_one] at hc1
              obtain ⟨m, hmm⟩ : ∃ m, m = (D.ins.getD j []).length := ⟨_, rfl⟩
              rw [← hmm] at hc1
              have HMM := Lib.hid hmm
              clear hcell hp e2 e3 hmm
              by_cases hm : (200 : Int) < (m : Int)
              · go_wp2
                go_ret
                exact HFF.out _ HB0.out
              · go_wp2
                go_roundw
                case rel => exact ⟨j + 1, by omega, by go_num, trivial, fun i hi => by
                  by_cases e : i = j
                  · subst e; have := HMM.out; omega
                  · exact HALL2.out i (by omega)⟩
                case measure => simp [intOf]; omega
            · have HF : Hid (LightB D) := Lib.hid ⟨by have := N2.out; omega, by have := N3.out; omega, HA2.out, fun i hi => HALL2.out i (by have := N3.out; omega)⟩
              go_wp2
              go_ret
              exact ⟨⟨true, rfl, fun _ => HF.out⟩, HB0.out⟩
  · by_cases hs1 : (4200 : Int) < (n1 : Int)
    · go_enter Tryz.func29, Tryz.ntmps29
      go_wp2
      go_ret
      exact HFF.out _ HB0.out
    · by_cases hs2 : n2 ≤ 10
      · have t2 : decide ((10 : Int) < (n2 : Int)) = false := decide_eq_false (by omega)
        have t3 : decide ((40 : Int) < (n3 : Int)) = true := decide_eq_true (by omega)
        go_enter Tryz.func29, Tryz.ntmps29
        go_wp2
        go_ret
        exact HFF.out _ HB0.out
      · have t2 : decide ((10 : Int) < (n2 : Int)) = true := decide_eq_true (by omega)
        go_enter Tryz.func29, Tryz.ntmps29
        go_wp2
        go_ret
        exact HFF.out _ HB0.out
end Go.Proofs.YtamgbfkpblpfiaaGreatDoor
