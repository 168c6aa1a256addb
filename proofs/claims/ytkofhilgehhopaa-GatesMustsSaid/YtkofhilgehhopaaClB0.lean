/-
  Clauses: whether they hold in a model.
-/
import Derived.Test.YtkofhilgehhopaaClA0
import Derived.Test.YtkofhilgehhopaaShelf
namespace Go.Proofs.Ytkofhilgehhopaa
open Go.ChangeShapes Go.WideShapes Go.ChangeAt Go.RowKit
set_option linter.unusedVariables false
/-- The slice v reads as the truths ms. -/
def Bools (w : World) (v : Value) (ms : List Bool) : Prop :=
  ∃ a cap, v = .slice a ms.length cap ∧ ms.length ≤ cap ∧ cap ≤ maxLen ∧ (ms = [] ∨ ∃ b off, a = some ⟨b, off, none⟩ ∧ ∀ j, j < ms.length → w.cell? ⟨b, off + j, none⟩ = some (.bool (ms.getD j false)))
theorem Bools.chg {w w' : World} {v : Value} {xs : List Bool} {S : Nat → Prop} (h : Bools w v xs) (hc : Chg S w w') (hn : ∀ b, v.ownBlock = some b → ¬ S b) : Bools w' v xs := by
  obtain ⟨a, cap, rfl, h1, h2, h3⟩ := h
  refine ⟨a, cap, rfl, h1, h2, ?_⟩
  rcases h3 with h3 | ⟨b, off, rfl, hcell⟩
  · exact .inl h3
  · refine .inr ⟨b, off, rfl, fun j hj => ?_⟩
    have := hcell j hj
    have hlt := World.block_lt_of_cell? w _ this
    rw [World.cell?_of_block (w := w) (hc.block b hlt (hn b rfl))]; exact this
theorem Bools.below {w w' : World} {v : Value} {xs : List Bool} (h : Bools w v xs) (hb : Below w.heap.size w w') : Bools w' v xs := h.chg (S := fun _ => False) (Chg.of_below hb) (fun _ _ h => h)
def litB (x : Int) (ms : List Bool) : Bool := (decide (0 < x)) == (decide (absI x < (ms.length : Int)) && ms.getD (absI x).toNat false)
def holdsB (l : List Int) (ms : List Bool) : Bool := l.any fun x => litB x ms
theorem bools_cell {w : World} {v : Value} {ms : List Bool} (h : Bools w v ms) {j : Nat} (hj : j < ms.length) : ∃ b off cap, v = .slice (some ⟨b, off, none⟩) ms.length cap ∧ w.cell? ⟨b, off + j, none⟩ = some (.bool (ms.getD j false)) := by
  obtain ⟨a, cap, rfl, -, -, h3⟩ := h
  have hne : ms ≠ [] := fun e => by rw [e] at hj; simp at hj
  obtain ⟨b, off, rfl, hc⟩ := h3.resolve_left hne
  exact ⟨b, off, cap, rfl, hc j hj⟩
theorem litB_in {x : Int} {ms : List Bool} {k : Nat} (hk : absI x = (k : Int)) (h : k < ms.length) : litB x ms = (decide (0 < x) == ms.getD k false) := by
  unfold litB
  rw [hk, decide_eq_true (by omega : (k : Int) < (ms.length : Int)), Int.toNat_natCast, Bool.true_and]
theorem litB_out {x : Int} {ms : List Bool} {k : Nat} (hk : absI x = (k : Int)) (h : ¬ k < ms.length) : litB x ms = !decide (0 < x) := by
  unfold litB
  rw [hk, decide_eq_false (by omega : ¬ (k : Int) < (ms.length : Int)), Bool.false_and]
  cases decide (0 < x) <;> rfl
set_option maxHeartbeats 1000000 in
theorem cl_Holds1 {w : World} {bx : Nat} {v : Value} {ms : List Bool} (hbox : w.cell? ⟨bx, 0, none⟩ = some v) (hb : Bools w v ms) (x : Int) (hx : small x) :
    Calls Try.prog 68 #[.int .i64 x, .pointer (some ⟨bx, 0, none⟩)] w fun e w' => e = .returned (.bool (litB x ms)) ∧ w = w' := by
  obtain ⟨a0, a1⟩ := absI_bd hx
  have hA := cl_abs x hx w
  obtain ⟨k, hk⟩ : ∃ k : Nat, absI x = (k : Int) := ⟨(absI x).toNat, by omega⟩
  have hkb : (k : Int) ≤ 1152921504606846976 := by omega
  by_cases hlt : k < ms.length
  · rw [litB_in hk hlt]
    rw [hk] at hA
    obtain ⟨b, off, cap, rfl, hc⟩ := bools_cell hb hlt
    obtain ⟨bit, hbit⟩ : ∃ bit, bit = ms.getD k false := ⟨_, rfl⟩
    rw [← hbit] at hc ⊢
    obtain ⟨n, hn⟩ : ∃ n, n = ms.length := ⟨_, rfl⟩
    rw [← hn] at hbox hlt
    have c1 : decide ((k : Int) < (n : Int)) = true := decide_eq_true (by omega)
    have hn9 : (k : Int) < (n : Int) := by omega
    have HA := Lib.hid hA
    clear hA hk hbit hn hb a0 a1 hx
    go_enter Try.func68, Try.ntmps68
    go_wp2_with ((go_at_call 69; refine (HA.out).mono ?_; rintro e w' ⟨rfl, rfl⟩))
    go_ret
    exact ⟨rfl, rfl⟩
  · rw [litB_out hk hlt]
    rw [hk] at hA
    obtain ⟨a, cap, rfl, -, -, -⟩ := hb
    obtain ⟨n, hn⟩ : ∃ n, n = ms.length := ⟨_, rfl⟩
    rw [← hn] at hbox hlt
    have c1 : decide ((k : Int) < (n : Int)) = false := decide_eq_false (by omega)
    have HA := Lib.hid hA
    clear hA hk hn a0 a1 hx
    go_enter Try.func68, Try.ntmps68
    go_wp2_with ((go_at_call 69; refine (HA.out).mono ?_; rintro e w' ⟨rfl, rfl⟩))
    go_ret
    exact ⟨rfl, rfl⟩
set_option maxHeartbeats 1000000 in
theorem r17_Lit {w : World} {v : Value} {ms : List Bool} (hb : Bools w v ms) (x : Int) (hx : small x) :
    Calls Try.prog 25 #[.int .i64 x, v] w fun e w' => e = .returned (.bool (litB x ms)) ∧ w = w' := by
  obtain ⟨a0, a1⟩ := absI_bd hx
  have hA := r17_Abs x hx w
  obtain ⟨k, hk⟩ : ∃ k : Nat, absI x = (k : Int) := ⟨(absI x).toNat, by omega⟩
  have hkb : (k : Int) ≤ 1152921504606846976 := by omega
  by_cases hlt : k < ms.length
  · rw [litB_in hk hlt, Bool.beq_comm]
    rw [hk] at hA
    obtain ⟨b, off, cap, rfl, hc⟩ := bools_cell hb hlt
    obtain ⟨bit, hbit⟩ : ∃ bit, bit = ms.getD k false := ⟨_, rfl⟩
    rw [← hbit] at hc ⊢
    obtain ⟨n, hn⟩ : ∃ n, n = ms.length := ⟨_, rfl⟩
    rw [← hn] at hlt ⊢
    have c1 : decide ((k : Int) < (n : Int)) = true := decide_eq_true (by omega)
    have hn9 : (k : Int) < (n : Int) := by omega
    have HA := Lib.hid hA
    clear hA hk hbit hn hb a0 a1 hx
    go_enter Try.func25, Try.ntmps25
    go_wp2_with ((go_at_call 56; refine (HA.out).mono ?_; rintro e w' ⟨rfl, rfl⟩))
    go_ret
    exact ⟨rfl, rfl⟩
  · rw [litB_out hk hlt]
    rw [hk] at hA
    obtain ⟨a, cap, rfl, -, -, -⟩ := hb
    obtain ⟨n, hn⟩ : ∃ n, n = ms.length := ⟨_, rfl⟩
    rw [← hn] at hlt ⊢
    have c1 : decide ((k : Int) < (n : Int)) = false := decide_eq_false (by omega)
    have HA := Lib.hid hA
    clear hA hk hn a0 a1 hx
    go_enter Try.func25, Try.ntmps25
    go_wp2_with ((go_at_call 56; refine (HA.out).mono ?_; rintro e w' ⟨rfl, rfl⟩))
    go_ret
    exact ⟨rfl, rfl⟩
/-! ### literals as a type of their own -/
abbrev Lit0 := {x : Int // small x}
instance : Inhabited Lit0 := ⟨⟨0, by unfold small; omega⟩⟩
def encL (x : Lit0) : Value := .int .i64 x.1
def toZ (l : List Int) (h : ∀ x ∈ l, small x) : List Lit0 := l.pmap Subtype.mk h
theorem toZ_map (l : List Int) (h : ∀ x ∈ l, small x) : (toZ l h).map (fun x : Lit0 => x.1) = l := by
  unfold toZ
  rw [List.map_pmap]
  simp
theorem toZ_len (l : List Int) (h : ∀ x ∈ l, small x) : (toZ l h).length = l.length := by simp [toZ]
theorem toZ_at (l : List Int) (h : ∀ x ∈ l, small x) {j : Nat} (hj : j < l.length) : ((toZ l h)[j]!).1 = l.getD j 0 := by
  have hj' : j < (toZ l h).length := by rw [toZ_len]; exact hj
  rw [getElem!_pos _ j hj']
  have e : ((toZ l h)[j]).1 = l[j] := by simp [toZ]
  rw [e]
  simp [List.getD, hj]
theorem ClauseL.small {l : List Int} (h : ClauseL l) : ∀ x ∈ l, Go.Proofs.Ytkofhilgehhopaa.small x := fun x hx => (h x hx).2
theorem toZ_any (l : List Int) (h : ∀ x ∈ l, small x) (p : Int → Bool) : (toZ l h).any (fun x => p x.1) = l.any p := by
  have := congrArg (fun m => List.any m p) (toZ_map l h)
  simp only [List.any_map] at this
  exact this
theorem cfun_none (A : Option Addr) (cap : Nat) (fv : Value) (w : World) : Calls Try.prog 42 #[.slice A 0 cap, fv] w fun e w' => e = .returned (.bool false) ∧ w = w' :=
  (AnyE.slices_ContainsFunc_empty Try.hasF A cap fv w).mono fun e w' h => ⟨h.1, h.2.symm⟩
theorem holds_some {w : World} {bx b off cap : Nat} {v : Value} {ms : List Bool} {l : List Int} (hcl : ClauseL l) (hl : l.length ≤ 9223372036854775807) (hbox : ∀ W, Below w.heap.size w W → W.cell? ⟨bx, 0, none⟩ = some v) (hb : Bools w v ms)
    (hc : ∀ j, j < l.length → w.cell? ⟨b, off + j, none⟩ = some (.int .i64 (l.getD j 0))) :
    Calls Try.prog 42 #[.slice (some ⟨b, off, none⟩) l.length cap, .func (.func 68) #[] #[.pointer (some ⟨bx, 0, none⟩)]] w fun e w' => e = .returned (.bool (holdsB l ms)) ∧ Quiet w w' := by
  have eg : ∀ args w, (callFunc 68 args).run Try.prog w = .ok (.enter 68 args) w := enters_of Try.func68 (by kernel_rfl) rfl
  have hp : PredAt Try.prog 68 #[.pointer (some ⟨bx, 0, none⟩)] encL (fun x => litB x.1 ms) w := fun W x hW =>
    (cl_Holds1 (hbox W hW) (hb.below hW) x.1 x.2).mono fun e w' ⟨h1, h2⟩ => ⟨h1, 0, h2.symm⟩
  have h := AnyE.slices_ContainsFunc Try.hasF encL (fun x => litB x.1 ms) 68 #[.pointer (some ⟨bx, 0, none⟩)] eg b off l.length cap (toZ l hcl.small) w hp (by rw [toZ_len]; exact Nat.le_refl _) hl (fun j hj => by
    rw [toZ_len] at hj
    rw [hc j hj]
    unfold encL
    rw [toZ_at l hcl.small hj])
  refine h.mono fun e w' ⟨h1, h2⟩ => ⟨?_, h2⟩
  rw [h1, ← toZ_len l hcl.small, List.take_length, toZ_any l hcl.small (fun x => litB x ms)]
  rfl
set_option maxHeartbeats 1000000 in
theorem cl_Holds {w : World} {u v : Value} {ms : List Bool} {l : List Int} (hi : Ints w u l) (hcl : ClauseL l) (hb : Bools w v ms) :
    Calls Try.prog 52 #[u, v] w fun e w' => e = .returned (.bool (holdsB l ms)) ∧ Below w.heap.size w w' := by
  obtain ⟨a, cap, rfl, -, h1, h2, h3⟩ := hi
  obtain ⟨ma, mcap, hv, -⟩ := id hb
  obtain ⟨mn, hmn⟩ : ∃ mn, mn = ms.length := ⟨_, rfl⟩
  rw [← hmn] at hv
  clear hmn
  subst hv
  obtain ⟨v, hv⟩ : ∃ v, v = Value.slice ma mn mcap := ⟨_, rfl⟩
  rw [← hv] at hb
  rcases h3 with rfl | ⟨b, off, rfl, hc⟩
  · clear hb hcl h1 h2 hv
    go_enter Try.func52, Try.ntmps52
    go_wp2_with ((go_at_call 42; refine (cfun_none _ _ _ _).mono ?_; rintro e w' ⟨rfl, rfl⟩))
    go_ret
    exact ⟨rfl, (Below.refl _ _).alloc (Nat.le_refl _) _⟩
  · have hB1 : Below w.heap.size w (w.alloc (.cells #[v] 38)) := (Below.refl _ _).alloc (Nat.le_refl _) _
    have hcc := holds_some (w := w.alloc (.cells #[v] 38)) (bx := w.heap.size) (b := b) (off := off) (cap := cap) (v := v) (ms := ms) (l := l) hcl (Nat.le_trans h1 h2)
      (fun W hW => by
        have h0 : (w.alloc (.cells #[v] 38)).cell? ⟨w.heap.size, 0, none⟩ = some v := (Blk.new w 38 #[v]).cell 0
        exact (hW.cell (p := ⟨w.heap.size, 0, none⟩) (by simp)).trans h0) (hb.below hB1) (fun j hj => by
        have := hc j hj
        exact (hB1.cell (p := ⟨b, off + j, none⟩) (World.block_lt_of_cell? w _ this)).trans this)
    rw [hv] at hcc hB1
    have HC := Lib.hid hcc
    have HB := Lib.hid hB1
    obtain ⟨n, hn⟩ : ∃ n, n = l.length := ⟨_, rfl⟩
    rw [← hn] at HC ⊢
    clear hcc hB1 hc hb hcl h1 h2 hn hv
    go_enter Try.func52, Try.ntmps52
    go_wp2_with ((go_at_call 42; refine (HC.out).mono ?_; rintro e w' ⟨rfl, hq⟩))
    go_ret
    exact ⟨rfl, HB.out.trans (hq.below.mono HB.out.size)⟩
theorem any_yes {l : List Int} {p : Int → Bool} {k : Nat} (hk : k < l.length) (h : p (l.getD k 0) = true) : l.any p = true := by
  rw [List.any_eq_true]
  exact ⟨_, List.getElem_mem hk, by simpa [List.getD, hk] using h⟩
theorem any_no {l : List Int} {p : Int → Bool} {n : Nat} (hn : n = l.length) (h : ∀ j, j < n → p (l.getD j 0) = false) : l.any p = false := by
  rw [List.any_eq_false]
  intro x hx
  obtain ⟨j, hj, rfl⟩ := List.getElem_of_mem hx
  have := h j (by omega)
  simpa [List.getD, hj] using this
theorem small_at {l : List Int} (h : ClauseL l) {j : Nat} (hj : j < l.length) : small (l.getD j 0) := by
  have := h.small _ (List.getElem_mem hj)
  simpa [List.getD, hj] using this
set_option maxHeartbeats 1000000 in
theorem r17_Holds {w : World} {u v : Value} {ms : List Bool} {l : List Int} (hi : Ints w u l) (hcl : ClauseL l) (hb : Bools w v ms) :
    Calls Try.prog 73 #[u, v] w fun e w' => e = .returned (.bool (holdsB l ms)) ∧ w = w' := by
  obtain ⟨a, cap, rfl, -, hc1, hc2, hv⟩ := hi
  obtain ⟨ans, hans⟩ : ∃ b, b = holdsB l ms := ⟨_, rfl⟩
  rw [← hans]
  obtain ⟨n, hn⟩ : ∃ n, n = l.length := ⟨_, rfl⟩
  rw [← hn] at hc1 ⊢
  have hm : n ≤ 9223372036854775807 := Nat.le_trans hc1 hc2
  have HA := Lib.hid hans
  have HN := Lib.hid hn
  have HV := Lib.hid hv
  have HB := Lib.hid hb
  have HCL := Lib.hid hcl
  clear hv hn hc1 hc2 hans hb hcl
  go_enter Try.func73, Try.ntmps73
  go_wp2
  go_loopw [5] (fun i wr => ∃ k : Nat, k ≤ n ∧ i = .int .i64 k ∧ (∀ j, j < k → litB (l.getD j 0) ms = false) ∧ wr = w) (fun i _ => n - (intOf i).toNat)
  case atStart => exact ⟨0, Nat.zero_le _, rfl, fun _ h => absurd h (by omega), rfl⟩
  case round =>
    obtain ⟨k, hk, rfl, hrel, rfl⟩ := hrel
    have HR := Lib.hid hrel
    clear hrel
    by_cases hlt : (k : Int) < (n : Int)
    · have hkn : k < l.length := by have := HN.out; omega
      obtain ⟨b, off, rfl, hcell⟩ := ints_cells HV.out hkn
      have q1 := hcell wr (Below.refl _ _)
      have hlit := r17_Lit HB.out (l.getD k 0) (small_at HCL.out hkn)
      obtain ⟨y, hy⟩ : ∃ y, y = l.getD k 0 := ⟨_, rfl⟩
      rw [← hy] at q1 hlit
      have HL := Lib.hid hlit
      have HY := Lib.hid hy
      have HK := Lib.hid hkn
      clear hcell hkn hy hlit
      cases hbit : litB y ms
      · have HZ := Lib.hid hbit
        go_wp2_with ((go_at_call 25; refine (HL.out).mono ?_; rintro e w' ⟨rfl, rfl⟩))
        go_roundw
        case rel =>
          refine ⟨k + 1, by omega, by go_num, fun j hj => ?_, trivial⟩
          rcases Nat.lt_or_ge j k with h | h
          · exact HR.out j h
          · rw [show j = k by omega, ← HY.out]; exact HZ.out
        case measure => simp [intOf]; omega
      · have HZ : Hid (ans = true) := Lib.hid (by rw [HA.out]; exact any_yes HK.out (by rw [← HY.out]; exact hbit))
        go_wp2_with ((go_at_call 25; refine (HL.out).mono ?_; rintro e w' ⟨rfl, rfl⟩))
        go_ret
        exact ⟨by rw [HZ.out]; rfl, rfl⟩
    · have HZ : Hid (ans = false) := Lib.hid (by rw [HA.out]; exact any_no (n := k) (by have := HN.out; omega) HR.out)
      go_wp2
      go_ret
      exact ⟨by rw [HZ.out]; rfl, rfl⟩
end Go.Proofs.Ytkofhilgehhopaa
