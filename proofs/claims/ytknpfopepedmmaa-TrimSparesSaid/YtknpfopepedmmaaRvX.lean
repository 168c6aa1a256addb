/-
  The document's answer of chapter 17 at models, walked: Lit, Holds, All (of the texts of chapters 17 and 18).
-/
import Derived.Test.YtknpfopepedmmaaRvW
namespace Go.Proofs.Ytknpfopepedmmaa
open Go.ChangeShapes Go.WideShapes Go.ChangeAt Go.RowKit
set_option linter.unusedVariables false
set_option linter.unusedSimpArgs false
/-- The slice v reads as the truths ms. -/
def Bools (w : World) (v : Value) (ms : List Bool) : Prop :=
  ∃ a cap, v = .slice a ms.length cap ∧ ms.length ≤ cap ∧ cap ≤ maxLen ∧ (ms = [] ∨ ∃ b off, a = some ⟨b, off, none⟩ ∧ ∀ j, j < ms.length → w.cell? ⟨b, off + j, none⟩ = some (.bool (ms.getD j false)))
theorem Bools.chg {w w' : World} {v : Value} {xs : List Bool} {S : Nat → Prop} (h : Bools w v xs) (hc : Chg S w w') (hn : ∀ b, v.ownBlock = some b → ¬ S b) : Bools w' v xs := by
  obtain ⟨a, cap, rfl, h1, h2, h3⟩ := h
  refine ⟨a, cap, rfl, h1, h2, ?_⟩
  rcases h3 with h3 | ⟨b, off, rfl, hcell⟩
  · exact .inl h3
  · refine .inr ⟨b, off, rfl, fun j hj => ?_⟩
    have := hcell j hj
    have hlt := World.block_lt_of_cell? w _ this
    rw [World.cell?_of_block (w := w) (hc.block b hlt (hn b rfl))]; exact this
theorem Bools.below {w w' : World} {v : Value} {xs : List Bool} (h : Bools w v xs) (hb : Below w.heap.size w w') : Bools w' v xs := h.chg (S := fun _ => False) (Chg.of_below hb) (fun _ _ h => h)
def mlitB (x : Int) (ms : List Bool) : Bool := (decide (0 < x)) == (decide (absI x < (ms.length : Int)) && ms.getD (absI x).toNat false)
def holdsB (l : List Int) (ms : List Bool) : Bool := l.any fun x => mlitB x ms
theorem bools_cell {w : World} {v : Value} {ms : List Bool} (h : Bools w v ms) {j : Nat} (hj : j < ms.length) : ∃ b off cap, v = .slice (some ⟨b, off, none⟩) ms.length cap ∧ w.cell? ⟨b, off + j, none⟩ = some (.bool (ms.getD j false)) := by
  obtain ⟨a, cap, rfl, -, -, h3⟩ := h
  have hne : ms ≠ [] := fun e => by rw [e] at hj; simp at hj
  obtain ⟨b, off, rfl, hc⟩ := h3.resolve_left hne
  exact ⟨b, off, cap, rfl, hc j hj⟩
theorem mlitB_in {x : Int} {ms : List Bool} {k : Nat} (hk : absI x = (k : Int)) (h : k < ms.length) : mlitB x ms = (decide (0 < x) == ms.getD k false) := by
  unfold mlitB
  rw [hk, decide_eq_true (by omega : (k : Int) < (ms.length : Int)), Int.toNat_natCast, Bool.true_and]
theorem mlitB_out {x : Int} {ms : List Bool} {k : Nat} (hk : absI x = (k : Int)) (h : ¬ k < ms.length) : mlitB x ms = !decide (0 < x) := by
  unfold mlitB
  rw [hk, decide_eq_false (by omega : ¬ (k : Int) < (ms.length : Int)), Bool.false_and]
  cases decide (0 < x) <;> rfl
set_option maxHeartbeats 1000000 in
theorem r17_Lit {w : World} {v : Value} {ms : List Bool} (hb : Bools w v ms) (x : Int) (hx : small x) :
    Calls Try.prog 56 #[.int .i64 x, v] w fun e w' => e = .returned (.bool (mlitB x ms)) ∧ w = w' := by
  obtain ⟨a0, a1⟩ := absI_bd hx
  have hA := r17_Abs x hx w
  obtain ⟨k, hk⟩ : ∃ k : Nat, absI x = (k : Int) := ⟨(absI x).toNat, by omega⟩
  have hkb : (k : Int) ≤ 1152921504606846976 := by omega
  by_cases hlt : k < ms.length
  · rw [mlitB_in hk hlt, Bool.beq_comm]
    rw [hk] at hA
    obtain ⟨b, off, cap, rfl, hc⟩ := bools_cell hb hlt
    obtain ⟨bit, hbit⟩ : ∃ bit, bit = ms.getD k false := ⟨_, rfl⟩
    rw [← hbit] at hc ⊢
    obtain ⟨n, hn⟩ : ∃ n, n = ms.length := ⟨_, rfl⟩
    rw [← hn] at hlt ⊢
    have c1 : decide ((k : Int) < (n : Int)) = true := decide_eq_true (by omega)
    have hn9 : (k : Int) < (n : Int) := by omega
    have HA := Lib.hid hA
    clear hA hk hbit hn hb a0 a1 hx
    go_enter Try.func56, Try.ntmps56
    go_wp2_with ((go_at_call 57; refine (HA.out).mono ?_; rintro e w' ⟨rfl, rfl⟩))
    go_ret
    exact ⟨rfl, rfl⟩
  · rw [mlitB_out hk hlt]
    rw [hk] at hA
    obtain ⟨a, cap, rfl, -, -, -⟩ := hb
    obtain ⟨n, hn⟩ : ∃ n, n = ms.length := ⟨_, rfl⟩
    rw [← hn] at hlt ⊢
    have c1 : decide ((k : Int) < (n : Int)) = false := decide_eq_false (by omega)
    have HA := Lib.hid hA
    clear hA hk hn a0 a1 hx
    go_enter Try.func56, Try.ntmps56
    go_wp2_with ((go_at_call 57; refine (HA.out).mono ?_; rintro e w' ⟨rfl, rfl⟩))
    go_ret
    exact ⟨rfl, rfl⟩
theorem any_yes {l : List Int} {p : Int → Bool} {k : Nat} (hk : k < l.length) (h : p (l.getD k 0) = true) : l.any p = true := by
  rw [List.any_eq_true]
  exact ⟨_, List.getElem_mem hk, by simpa [List.getD, hk] using h⟩
theorem any_no {l : List Int} {p : Int → Bool} {n : Nat} (hn : n = l.length) (h : ∀ j, j < n → p (l.getD j 0) = false) : l.any p = false := by
  rw [List.any_eq_false]
  intro x hx
  obtain ⟨j, hj, rfl⟩ := List.getElem_of_mem hx
  have := h j (by omega)
  simpa [List.getD, hj] using this
set_option maxHeartbeats 1000000 in
theorem r17_Holds {w : World} {u v : Value} {ms : List Bool} {l : List Int} (hi : Ints w u l) (hcl : ClauseL l) (hb : Bools w v ms) :
    Calls Try.prog 26 #[u, v] w fun e w' => e = .returned (.bool (holdsB l ms)) ∧ w = w' := by
  obtain ⟨a, cap, rfl, -, hc1, hc2, hv⟩ := hi
  obtain ⟨ans, hans⟩ : ∃ b, b = holdsB l ms := ⟨_, rfl⟩
  rw [← hans]
  obtain ⟨n, hn⟩ : ∃ n, n = l.length := ⟨_, rfl⟩
  rw [← hn] at hc1 ⊢
  have hm : n ≤ 9223372036854775807 := Nat.le_trans hc1 hc2
  have HA := Lib.hid hans
  have HN := Lib.hid hn
  have HV := Lib.hid hv
  have HB := Lib.hid hb
  have HCL := Lib.hid hcl
  clear hv hn hc1 hc2 hans hb hcl
  go_enter Try.func26, Try.ntmps26
  go_wp2
  go_loopw [5] (fun i wr => ∃ k : Nat, k ≤ n ∧ i = .int .i64 k ∧ (∀ j, j < k → mlitB (l.getD j 0) ms = false) ∧ wr = w) (fun i _ => n - (intOf i).toNat)
  case atStart => exact ⟨0, Nat.zero_le _, rfl, fun _ h => absurd h (by omega), rfl⟩
  case round =>
    obtain ⟨k, hk, rfl, hrel, rfl⟩ := hrel
    have HR := Lib.hid hrel
    clear hrel
    by_cases hlt : (k : Int) < (n : Int)
    · have hkn : k < l.length := by have := HN.out; omega
      obtain ⟨b, off, rfl, hcell⟩ := ints_cells HV.out hkn
      have q1 := hcell wr (Below.refl _ _)
      have hlit := r17_Lit HB.out (l.getD k 0) (small_at HCL.out hkn)
      obtain ⟨y, hy⟩ : ∃ y, y = l.getD k 0 := ⟨_, rfl⟩
      rw [← hy] at q1 hlit
      have HL := Lib.hid hlit
      have HY := Lib.hid hy
      have HK := Lib.hid hkn
      clear hcell hkn hy hlit
      cases hbit : mlitB y ms
      · have HZ := Lib.hid hbit
        go_wp2_with ((go_at_call 56; refine (HL.out).mono ?_; rintro e w' ⟨rfl, rfl⟩))
        go_roundw
        case rel =>
          refine ⟨k + 1, by omega, by go_num, fun j hj => ?_, trivial⟩
          rcases Nat.lt_or_ge j k with h | h
          · exact HR.out j h
          · rw [show j = k by omega, ← HY.out]; exact HZ.out
        case measure => simp [intOf]; omega
      · have HZ : Hid (ans = true) := Lib.hid (by rw [HA.out]; exact any_yes HK.out (by rw [← HY.out]; exact hbit))
        go_wp2_with ((go_at_call 56; refine (HL.out).mono ?_; rintro e w' ⟨rfl, rfl⟩))
        go_ret
        exact ⟨by rw [HZ.out]; rfl, rfl⟩
    · have HZ : Hid (ans = false) := Lib.hid (by rw [HA.out]; exact any_no (n := k) (by have := HN.out; omega) HR.out)
      go_wp2
      go_ret
      exact ⟨by rw [HZ.out]; rfl, rfl⟩
def allB (xss : List (List Int)) (ms : List Bool) : Bool := xss.all fun c => holdsB c ms
def AllCl (xss : List (List Int)) : Prop := ∀ c ∈ xss, ClauseL c
theorem AllCl.at_ {xss : List (List Int)} (h : AllCl xss) {k : Nat} (hk : k < xss.length) : ClauseL (xss.getD k []) := by
  have := h _ (List.getElem_mem hk)
  simpa [List.getD, hk] using this
theorem IntsS.row {w wr : World} {a : Option Addr} {n cap : Nat} {xss : List (List Int)} (h : IntsS w (.slice a n cap) xss) (hb : Below w.heap.size w wr) {k : Nat} (hk : k < xss.length) :
    ∃ b off ua uc, a = some ⟨b, off, none⟩ ∧ wr.cell? ⟨b, off + k, none⟩ = some (.slice ua (xss.getD k []).length uc) ∧ Ints wr (.slice ua (xss.getD k []).length uc) (xss.getD k []) := by
  obtain ⟨b, off, cap', u, he, hcell, hint⟩ := h.at_ hk
  injection he with e1 e2 e3
  obtain ⟨ua, uc, rfl, -⟩ := id hint
  exact ⟨b, off, ua, uc, e1, (hb.cell (p := ⟨b, off + k, none⟩) (World.block_lt_of_cell? w _ hcell)).trans hcell, hint.below hb⟩
theorem allB_at {xss : List (List Int)} {ms : List Bool} {k : Nat} (hk : k < xss.length) (h : holdsB (xss.getD k []) ms = false) : allB xss ms = false := by
  unfold allB
  rw [List.all_eq_false]
  exact ⟨_, List.getElem_mem hk, by simpa [List.getD, hk] using h⟩
theorem allB_none {xss : List (List Int)} {ms : List Bool} (hb : ∀ j, j < xss.length → holdsB (xss.getD j []) ms = true) : allB xss ms = true := by
  unfold allB
  rw [List.all_eq_true]
  intro c hc
  obtain ⟨j, hj, rfl⟩ := List.getElem_of_mem hc
  have e : xss.getD j [] = xss[j] := by simp [List.getD, hj]
  rw [← e, hb j hj]
set_option maxHeartbeats 1000000 in
theorem r17_All {w : World} {vl mv : Value} {ms : List Bool} {xss : List (List Int)} (h2 : IntsS w vl xss) (hcl : AllCl xss) (hb : Bools w mv ms) :
    Calls Try.prog 25 #[vl, mv] w fun e w' => e = .returned (.bool (allB xss ms)) ∧ w = w' := by
  obtain ⟨a, cap, hv, k1, k2⟩ := h2.form
  obtain ⟨ans, hans⟩ : ∃ b, b = allB xss ms := ⟨_, rfl⟩
  rw [← hans]
  obtain ⟨n, hn⟩ : ∃ n, n = xss.length := ⟨_, rfl⟩
  rw [← hn] at hv k1
  subst hv
  have hm : n ≤ 9223372036854775807 := Nat.le_trans k1 k2
  have HS := Lib.hid h2
  have HN := Lib.hid hn
  have HA := Lib.hid hans
  have HCL := Lib.hid hcl
  have HBB := Lib.hid hb
  obtain ⟨ma, mc, hmv, -⟩ := id hb
  obtain ⟨mn, hmn⟩ : ∃ mn, mn = ms.length := ⟨_, rfl⟩
  rw [← hmn] at hmv
  subst hmv
  clear h2 hn hans hcl hb k1 k2 hmn
  go_enter Try.func25, Try.ntmps25
  go_wp2
  go_loopw [5] (fun i wr => ∃ k : Nat, k ≤ n ∧ i = .int .i64 k ∧ (∀ j, j < k → holdsB (xss.getD j []) ms = true) ∧ wr = w) (fun i _ => n - (intOf i).toNat)
  case atStart => exact ⟨0, Nat.zero_le _, rfl, fun _ h => absurd h (by omega), rfl⟩
  case round =>
    obtain ⟨k, hk, rfl, hrel, rfl⟩ := hrel
    have HR := Lib.hid hrel
    clear hrel
    by_cases hlt : (k : Int) < (n : Int)
    · have hkn : k < xss.length := by have := HN.out; omega
      obtain ⟨b, off, ua, uc, rfl, hcell, hint⟩ := HS.out.row (Below.refl _ _) hkn
      have H1 := r17_Holds hint (HCL.out.at_ hkn) HBB.out
      obtain ⟨c, hc⟩ : ∃ c, c = xss.getD k [] := ⟨_, rfl⟩
      rw [← hc] at hcell H1
      have HC := Lib.hid hc
      have H1 := Lib.hid H1
      have HK := Lib.hid hkn
      obtain ⟨cn, hcn⟩ : ∃ cn, cn = c.length := ⟨_, rfl⟩
      rw [← hcn] at hcell H1
      clear hint hkn hc hcn
      cases hz : holdsB c ms
      · have HZ : Hid (ans = false) := Lib.hid (by rw [HA.out]; exact allB_at HK.out (by rw [← HC.out]; exact hz))
        go_wp2_with ((go_at_call 26; refine (H1.out).mono ?_; rintro e w' ⟨rfl, rfl⟩))
        go_ret
        exact ⟨by rw [HZ.out]; rfl, rfl⟩
      · have HZ := Lib.hid hz
        go_wp2_with ((go_at_call 26; refine (H1.out).mono ?_; rintro e w' ⟨rfl, rfl⟩))
        go_roundw
        case rel =>
          refine ⟨k + 1, by omega, by go_num, fun j hj => ?_, trivial⟩
          rcases Nat.lt_or_ge j k with h | h
          · exact HR.out j h
          · rw [show j = k by omega, ← HC.out]; exact HZ.out
        case measure => simp [intOf]; omega
    · have HZ : Hid (ans = true) := Lib.hid (by rw [HA.out]; exact allB_none (fun j hj => HR.out j (by have := HN.out; omega)))
      go_wp2
      go_ret
      exact ⟨by rw [HZ.out]; rfl, rfl⟩
/-! ### Lists: of the same lists -/
end Go.Proofs.Ytknpfopepedmmaa
/-
  What follows holds in each model of the clauses, plainly.
-/
namespace Go.Proofs.Ytknpfopepedmmaa
set_option linter.unusedVariables false
set_option linter.unusedSimpArgs false
theorem absI_neg {y : Int} (h : y ≠ 0) : absI (-y) = absI y := by unfold absI; split <;> split <;> omega
theorem mlitB_neg {y : Int} (ms : List Bool) (h : y ≠ 0) : mlitB (-y) ms = !mlitB y ms := by
  unfold mlitB
  rw [absI_neg h]
  have e : decide (0 < -y) = !decide (0 < y) := by
    by_cases hp : 0 < y
    · rw [decide_eq_true hp, decide_eq_false (by omega)]; rfl
    · rw [decide_eq_false hp, decide_eq_true (by omega)]; rfl
  rw [e]
  cases decide (0 < y) <;> cases (decide (absI y < (ms.length : Int)) && ms.getD (absI y).toNat false) <;> rfl
/-- The literals of a model. -/
def mT (L : List Int) (ms : List Bool) : List Int := normC (L.map fun y => if mlitB y ms = true then y else -y)
theorem mem_mT {L : List Int} {ms : List Bool} {x : Int} : x ∈ mT L ms ↔ ∃ y ∈ L, (if mlitB y ms = true then y else -y) = x := by
  unfold mT
  rw [mem_normC, List.mem_map]
section
variable {L : List Int} {ms : List Bool}
theorem mT_holds (h30 : Lit30s L) {x : Int} (hx : x ∈ mT L ms) : mlitB x ms = true ∧ lit30 x := by
  obtain ⟨y, hy, e⟩ := mem_mT.1 hx
  have h := h30 y hy
  by_cases hb : mlitB y ms = true
  · rw [if_pos hb] at e
    rw [← e]; exact ⟨hb, h⟩
  · rw [if_neg hb] at e
    rw [← e, mlitB_neg ms h.1]
    obtain ⟨a, b, c⟩ := h
    exact ⟨by simpa using hb, by omega, by omega, by omega⟩
theorem mT_con (h30 : Lit30s L) : Con (mT L ms) :=
  ⟨fun x hx => (mT_holds h30 hx).2, (strict_normC _).imp fun {a b} h e => by rw [e] at h; omega, fun x hx hn => by
    have h1 := mT_holds h30 hx
    have h2 := mT_holds h30 hn
    rw [mlitB_neg ms h1.2.1, h1.1] at h2
    exact absurd h2.1 (by decide)⟩
theorem mT_yes {y : Int} (hy : y ∈ L) (hb : mlitB y ms = true) : y ∈ mT L ms := mem_mT.2 ⟨y, hy, by rw [if_pos hb]⟩
theorem mT_no {y : Int} (hy : y ∈ L) (hb : mlitB y ms = false) : -y ∈ mT L ms := mem_mT.2 ⟨y, hy, by rw [if_neg (by rw [hb]; decide)]⟩
theorem mT_closed (h30 : Lit30s L) {d : List Int} (hd : ∀ y ∈ d, y ∈ L) (hh : holdsB d ms = true) : ClosedC d (mT L ms) := by
  unfold holdsB at hh
  obtain ⟨y, hy, hb⟩ := List.any_eq_true.1 hh
  have hyT := mT_yes (hd y hy) hb
  refine ⟨?_, ?_⟩
  · cases hf : falR d (mT L ms) with
    | false => rfl
    | true => exact absurd hyT (fal_iff.1 hf y hy).1
  · refine Decidable.byContradiction fun hne => ?_
    obtain ⟨t1, t2, -⟩ := tel_ne (fun z hz => (h30 z (hd z hz)).1) hne
    obtain ⟨n1, n2⟩ := val_0 t2
    cases hz : mlitB (telR d (mT L ms)) ms with
    | true => exact n1 (mT_yes (hd _ t1) hz)
    | false => exact n2 (mT_no (hd _ t1) hz)
end
/-- What cannot be closed the other way holds in each model. -/
theorem holds_of {og : List (List Int)} {c : List Int} {ms : List Bool} (ho : ∀ d ∈ og, Lit30s d) (hc : Lit30s c) (hh : ∀ d ∈ og, holdsB d ms = true) (hn : ¬ OpenN og c) : holdsB c ms = true := by
  cases hb : holdsB c ms with
  | true => rfl
  | false =>
    exfalso
    refine hn ⟨mT (og.flatten ++ c) ms, mT_con ?_, fun y hy => ?_, fun d hd => mT_closed ?_ (fun y hy => ?_) (hh d hd)⟩
    · intro x hx
      rcases List.mem_append.1 hx with hx | hx
      · obtain ⟨d, hd, hx⟩ := List.mem_flatten.1 hx
        exact ho d hd x hx
      · exact hc x hx
    · refine mT_no (List.mem_append.2 (.inr hy)) ?_
      unfold holdsB at hb
      have := List.any_eq_false.1 hb y hy
      simpa using this
    · intro x hx
      rcases List.mem_append.1 hx with hx | hx
      · obtain ⟨d, hd, hx⟩ := List.mem_flatten.1 hx
        exact ho d hd x hx
      · exact hc x hx
    · exact List.mem_append.2 (.inl (List.mem_flatten.2 ⟨d, hd, hy⟩))
theorem holds_same {a b : List Int} (h : sameS a b = true) (ms : List Bool) : holdsB a ms = holdsB b ms := by
  have hm := same_mem.1 h
  unfold holdsB
  rw [Bool.eq_iff_iff, List.any_eq_true, List.any_eq_true]
  exact ⟨fun ⟨x, hx, hb⟩ => ⟨x, (hm x).1 hx, hb⟩, fun ⟨x, hx, hb⟩ => ⟨x, (hm x).2 hx, hb⟩⟩
theorem remR_same {c : List Int} : ∀ {og og' : List (List Int)}, remR og c = some og' → ∃ d ∈ og, sameS d c = true
  | [], og', h => by cases h
  | d :: r, og', h => by
    unfold remR at h
    by_cases hs : sameS d c = true
    · exact ⟨d, List.mem_cons_self, hs⟩
    · rw [if_neg hs] at h
      cases hr : remR r c with
      | none => rw [hr] at h; cases h
      | some q =>
        obtain ⟨e, he, hes⟩ := remR_same hr
        exact ⟨e, List.mem_cons_of_mem _ he, hes⟩
theorem chk_holds {goal : List Int} {ms : List Bool} (hg : Lit30s goal) : ∀ (r : List Stp) (og : List (List Int)) (i : Nat), (∀ d ∈ og, Lit30s d) → (∀ x ∈ r, okX x) → (∀ d ∈ og, holdsB d ms = true) → chkF og goal r i = -1 → (∀ x ∈ r, holdsB x.2 ms = true) ∧ holdsB goal ms = true
  | [], og, i, ho, hx, hh, he => by
    refine ⟨fun x hx => by simp at hx, ?_⟩
    refine holds_of ho hg hh fun hop => ?_
    rw [chkF_end_open hop] at he
    omega
  | (g, c) :: r, og, i, ho, hx, hh, he => by
    have hxr : ∀ x ∈ r, okX x := fun x h => hx x (List.mem_cons_of_mem _ h)
    have hxc : Lit30s c := (hx (g, c) List.mem_cons_self).1
    cases g with
    | true =>
      cases hr : remR og c with
      | none => rw [chkF_gone_none hr] at he; omega
      | some q =>
        rw [chkF_gone_some hr] at he
        obtain ⟨m1, m2⟩ := remR_mem hr
        obtain ⟨a1, a2⟩ := chk_holds hg r q (i + 1) (fun d hd => ho d (m1 d hd)) hxr (fun d hd => hh d (m1 d hd)) he
        refine ⟨fun x hx => ?_, a2⟩
        rcases List.mem_cons.1 hx with e | hx
        · rw [e]
          obtain ⟨d, hd, hs⟩ := remR_same hr
          show holdsB c ms = true
          rw [← holds_same hs]; exact hh d hd
        · exact a1 x hx
    | false =>
      by_cases hop : OpenN og c
      · rw [chkF_no hop] at he; omega
      · rw [chkF_yes hop] at he
        have hcc : holdsB c ms = true := holds_of ho hxc hh hop
        obtain ⟨a1, a2⟩ := chk_holds hg r (og ++ [c]) (i + 1) (fun d hd => by
          rcases List.mem_append.1 hd with hd | hd
          · exact ho d hd
          · rw [List.mem_singleton.1 hd]; exact hxc) hxr (fun d hd => by
          rcases List.mem_append.1 hd with hd | hd
          · exact hh d hd
          · rw [List.mem_singleton.1 hd]; exact hcc) he
        refine ⟨fun x hx => ?_, a2⟩
        rcases List.mem_cons.1 hx with e | hx
        · rw [e]; exact hcc
        · exact a1 x hx
end Go.Proofs.Ytknpfopepedmmaa
