/-
  The reference's Model, walked.
-/
import Derived.Test.YtkofhilgehhopaaCnfF
import Derived.Test.YtkofhilgehhopaaBoolsB
namespace Go.Proofs.Ytkofhilgehhopaa
open Go.ChangeShapes Go.WideShapes Go.ChangeAt Go.RowKit
set_option linter.unusedVariables false
def bitOf (k v : Nat) : Bool := decide (k / 2 ^ v % 2 = 1)
/-- The model by its number: of v variables. -/
def model (k : Nat) : Nat → List Bool
  | 0 => [false]
  | v + 1 => model k v ++ [bitOf k v]
theorem model_length (k : Nat) : ∀ v, (model k v).length = v + 1
  | 0 => rfl
  | v + 1 => by rw [model, List.length_append, model_length k v]; rfl
set_option maxHeartbeats 1000000 in
set_option maxRecDepth 100000 in
theorem r18_Model (k0 n : Nat) (hk : k0 ≤ 4096) (hn : n ≤ 12) (w : World) :
    Calls Try.prog 57 #[.int .i64 k0, .int .i64 n] w fun e w' => ∃ u, e = .returned u ∧ OwnT w w' u (model k0 n) := by
  go_enter Try.func57, Try.ntmps57
  go_wp2
  go_loopw [0, 5, 6] (fun q out i wr => ∃ j : Nat, j ≤ n ∧ i = .int .i64 j ∧ q = .int .i64 ((k0 / 2 ^ j : Nat) : Int) ∧ OwnT w wr out (model k0 j)) (fun _ _ i _ => n - (intOf i).toNat)
  case atStart => exact ⟨0, Nat.zero_le _, rfl, by simp, ⟨by
      have : Row (w.alloc (.cells #[.bool false] 4)) 4 1 (.slice (some ⟨w.heap.size, 0, none⟩) 1 1) 1 [.bool false] := ⟨rfl, .inr ⟨w.heap.size, 1, #[.bool false], rfl, Nat.zero_le _, heap_alloc_new w _, Nat.le_refl _, by simp [maxLen], rfl, rfl⟩⟩
      exact this, (Below.refl _ w).alloc (Nat.le_refl _) _, fun g hg => by simp [Value.ownBlock] at hg; omega⟩⟩
  case round =>
    obtain ⟨j, hj, rfl, rfl, hO⟩ := hrel
    by_cases hlt : (j : Int) < (n : Int)
    · have hq1 : k0 / 2 ^ (j + 1) = k0 / 2 ^ j / 2 := by rw [Nat.pow_succ, Nat.div_div_eq_div_mul]
      have hle : k0 / 2 ^ j ≤ 4096 := Nat.le_trans (Nat.div_le_self _ _) hk
      have hb : bitOf k0 j = decide (k0 / 2 ^ j % 2 = 1) := rfl
      have hm : model k0 (j + 1) = model k0 j ++ [bitOf k0 j] := rfl
      rw [hb] at hm
      have HQ1 := Lib.hid hq1
      have HM := Lib.hid hm
      have HL := Lib.hid (model_length k0 j)
      clear hq1 hb hm
      generalize k0 / 2 ^ j = q at *
      have q0 : (0 : Int) ≤ (q : Int) := by omega
      have q2 : (q : Int) ≤ 4096 := by omega
      have hrow := hO.1
      rw [HL.out] at hrow
      have HO := Lib.hid hO
      have HR := Lib.hid hrow
      clear hO hrow
      obtain ⟨bb, hbb⟩ : ∃ bb, bb = decide (q % 2 = 1) := ⟨_, rfl⟩
      have hb : (((q : Int) % 2) == 1) = bb := by
        rw [hbb, Bool.eq_iff_iff, beq_iff_eq, decide_eq_true_eq]
        omega
      rw [← hbb] at HM
      have HMM := HM
      clear HM hbb
      go_wp2_with (at_builtin; refine wpList_app rfl _ _ _ rfl 4 (.bool false) 1 1 Try.underlying38 infoB rfl (by decide) u5 (j + 1) ((model k0 j).map bv) rfl ?ho wr.heap.size 0 1 1 [.bool bb] rfl rfl ?hn ?hs ?c1 ?c2 ?_)
      case ho => exact HR.out.alloc _
      case hn => exact cellNew _ _ _ _ rfl
      case hs => exact oneCell1 rfl
      case c1 => unfold maxLen; omega
      case c2 => omega
      intro v' w3 hp3
      have hfin := HO.out.app (by rw [HL.out]; exact hp3)
      rw [← HMM.out] at hfin
      have HF := Lib.hid hfin
      clear hp3 hfin
      go_wp2
      go_roundw
      case rel => exact ⟨j + 1, by omega, by go_num, by rw [HQ1.out]; go_num, HF.out⟩
      case measure => simp [intOf]; omega
    · have hjn : j = n := by omega
      subst hjn
      have HO := Lib.hid hO
      clear hO
      go_wp2
      go_ret
      exact ⟨_, rfl, HO.out⟩
end Go.Proofs.Ytkofhilgehhopaa
/-
  Package cnf: what Count asks of the literals that are fixed, walked.
-/
namespace Go.Proofs.Ytkofhilgehhopaa
open Go.ChangeShapes Go.WideShapes Go.ChangeAt Go.RowKit
set_option linter.unusedVariables false
theorem holds_single (l : Int) (ms : List Bool) : holdsB [l] ms = litB l ms := by simp [holdsB]
theorem count1 {w : World} {bx : Nat} {mv : Value} {ms : List Bool} {l : Int} (hbox : w.cell? ⟨bx, 0, none⟩ = some mv) (hb : Bools w mv ms) (hc : ClauseL [l]) :
    Calls Try.prog 51 #[.int .i64 l, .pointer (some ⟨bx, 0, none⟩)] w fun e w' => e = .returned (.bool (!litB l ms)) ∧ Below w.heap.size w w' := by
  have hB : Below w.heap.size w (w.alloc (.cells #[.int .i64 l] 3)) := (Below.refl _ _).alloc (Nat.le_refl _) _
  have hi : Ints (w.alloc (.cells #[.int .i64 l] 3)) (.slice (some ⟨w.heap.size, 0, none⟩) 1 1) [l] := ⟨_, 1, rfl, (fun h => by cases h), by simp, by simp [maxLen], .inr ⟨w.heap.size, 0, rfl, fun j hj => by
    obtain rfl : j = 0 := by simp at hj; omega
    exact (Blk.new w 3 #[.int .i64 l]).cell 0⟩⟩
  have hbox' : (w.alloc (.cells #[.int .i64 l] 3)).cell? ⟨bx, 0, none⟩ = some mv := (hB.cell (p := ⟨bx, 0, none⟩) (World.block_lt_of_cell? w _ hbox)).trans hbox
  have hC := cl_Holds hi hc (hb.below hB)
  rw [holds_single] at hC
  have HC := Lib.hid hC
  have HB := Lib.hid hB
  obtain ⟨ma, mc, rfl, -⟩ := hb
  generalize ms.length = m at *
  clear hC hi hc hB
  go_enter Try.func51, Try.ntmps51
  go_wp2_with fail
  refine HC.out.mono ?_
  rintro e w1 ⟨rfl, hq⟩
  have HQ := Lib.hid (HB.out.trans (hq.mono HB.out.size))
  clear hq
  go_wp2
  go_ret
  exact ⟨rfl, HQ.out⟩
def ixL (fs : List Int) (ms : List Bool) : Int := match fs.findIdx? (fun l => !litB l ms) with
  | some i => i
  | none => -1
def fixB (fs : List Int) (ms : List Bool) : Bool := fs.all fun l => litB l ms
theorem ixL_at {fs : List Int} {ms : List Bool} {k : Nat} (hk : k < fs.length) (hb : ∀ j, j < k → litB (fs.getD j 0) ms = true) (h : litB (fs.getD k 0) ms = false) : ixL fs ms = k := by
  have : fs.findIdx? (fun l => !litB l ms) = some k := by
    rw [List.findIdx?_eq_some_iff_getElem]
    refine ⟨hk, ?_, fun j hj => ?_⟩
    · have : fs.getD k 0 = fs[k] := by simp [List.getD, hk]
      rw [← this, h]; rfl
    · have e : fs.getD j 0 = fs[j]'(by omega) := by simp [List.getD, show j < fs.length by omega]
      rw [← e, hb j hj]; simp
  unfold ixL
  rw [this]
theorem ixL_none {fs : List Int} {ms : List Bool} (hb : ∀ j, j < fs.length → litB (fs.getD j 0) ms = true) : ixL fs ms = -1 := by
  have : fs.findIdx? (fun l => !litB l ms) = none := by
    rw [List.findIdx?_eq_none_iff]
    intro c hc
    obtain ⟨j, hj, rfl⟩ := List.getElem_of_mem hc
    have e : fs.getD j 0 = fs[j] := by simp [List.getD, hj]
    rw [← e, hb j hj]; rfl
  unfold ixL
  rw [this]
theorem ixL_fixB (fs : List Int) (ms : List Bool) : decide (0 ≤ ixL fs ms) = !fixB fs ms := by
  unfold ixL fixB
  cases h : fs.findIdx? (fun l => !litB l ms) with
  | none =>
    rw [List.findIdx?_eq_none_iff] at h
    have : fs.all (fun l => litB l ms) = true := by
      rw [List.all_eq_true]
      intro c hc
      have := h c hc
      simpa using this
    rw [this]; rfl
  | some i =>
    rw [List.findIdx?_eq_some_iff_getElem] at h
    obtain ⟨hi, h1, -⟩ := h
    have : fs.all (fun l => litB l ms) = false := by
      rw [List.all_eq_false]
      exact ⟨_, List.getElem_mem hi, by simpa using h1⟩
    rw [this]
    simp
theorem ClauseL.single {fs : List Int} (h : ClauseL fs) {k : Nat} (hk : k < fs.length) : ClauseL [fs.getD k 0] := by
  intro x hx
  simp at hx
  subst hx
  have := h _ (List.getElem_mem hk)
  simpa [List.getD, hk] using this
set_option maxHeartbeats 1000000 in
theorem index1 {w : World} {bx : Nat} {mv v : Value} {ms : List Bool} {fs : List Int} (h : Ints w v fs) (hcl : ClauseL fs) (hbox : w.cell? ⟨bx, 0, none⟩ = some mv) (hb : Bools w mv ms) :
    Calls Try.prog 65 #[v, .func (.func 51) #[] #[.pointer (some ⟨bx, 0, none⟩)]] w fun e w' => e = .returned (.int .i64 (ixL fs ms)) ∧ Below w.heap.size w w' := by
  obtain ⟨a, cap, rfl, -, k1, k2, hv⟩ := h
  obtain ⟨ans, hans⟩ : ∃ b, b = ixL fs ms := ⟨_, rfl⟩
  rw [← hans]
  obtain ⟨n, hn⟩ : ∃ n, n = fs.length := ⟨_, rfl⟩
  rw [← hn] at k1 ⊢
  have hm : n ≤ 9223372036854775807 := Nat.le_trans k1 k2
  have HV := Lib.hid hv
  have HN := Lib.hid hn
  have HA := Lib.hid hans
  have HCL := Lib.hid hcl
  have HBX := Lib.hid hbox
  have HBB := Lib.hid hb
  clear hv hn hans hcl hbox hb k1 k2
  have eg : ∀ args w, (callFunc 51 args).run Try.prog w = .ok (.enter 51 args) w := enters_of Try.func51 (by kernel_rfl) rfl
  go_enter Try.func65, Try.ntmps65
  go_wp2
  go_loopw [8] (fun i wr => ∃ k : Nat, k ≤ n ∧ i = .int .i64 k ∧ (∀ j, j < k → litB (fs.getD j 0) ms = true) ∧ Below w.heap.size w wr) (fun i _ => n - (intOf i).toNat)
  case atStart => exact ⟨0, Nat.zero_le _, rfl, fun _ h => absurd h (by omega), Below.refl _ _⟩
  case round =>
    obtain ⟨k, hk, rfl, hrel, hW⟩ := hrel
    have HR := Lib.hid hrel
    have HW := Lib.hid hW
    clear hrel hW
    by_cases hlt : (k : Int) < (n : Int)
    · have hkn : k < fs.length := by have := HN.out; omega
      obtain ⟨b, off, rfl, hcell⟩ := ints_cells HV.out hkn
      have q1 := hcell wr HW.out
      have hbx : wr.cell? ⟨bx, 0, none⟩ = some mv := (HW.out.cell (p := ⟨bx, 0, none⟩) (World.block_lt_of_cell? w _ HBX.out)).trans HBX.out
      have H1 := count1 hbx (HBB.out.below HW.out) (HCL.out.single hkn)
      obtain ⟨c, hc⟩ : ∃ c, c = fs.getD k 0 := ⟨_, rfl⟩
      rw [← hc] at q1 H1
      have HC := Lib.hid hc
      have H1 := Lib.hid H1
      have HK := Lib.hid hkn
      clear hkn hc hbx hcell
      cases hz : litB c ms
      · have HZ : Hid (ans = k) := Lib.hid (by rw [HA.out]; exact ixL_at HK.out HR.out (by rw [← HC.out]; exact hz))
        go_wp2_with fail
        refine H1.out.mono ?_
        rintro e w2 ⟨rfl, hb2⟩
        have HB2 := Lib.hid (HW.out.trans (hb2.mono HW.out.size))
        clear hb2
        go_wp2
        go_ret
        exact ⟨by rw [HZ.out]; rfl, HB2.out⟩
      · have HZ := Lib.hid hz
        go_wp2_with fail
        refine H1.out.mono ?_
        rintro e w2 ⟨rfl, hb2⟩
        have HB2 := Lib.hid (HW.out.trans (hb2.mono HW.out.size))
        clear hb2
        go_wp2
        go_roundw
        case rel =>
          refine ⟨k + 1, by omega, by go_num, fun j hj => ?_, HB2.out⟩
          rcases Nat.lt_or_ge j k with h | h
          · exact HR.out j h
          · rw [show j = k by omega, ← HC.out]; exact HZ.out
        case measure => simp [intOf]; omega
    · have HZ : Hid (ans = -1) := Lib.hid (by rw [HA.out]; exact ixL_none (fun j hj => HR.out j (by have := HN.out; omega)))
      go_wp2
      go_ret
      exact ⟨by rw [HZ.out]; rfl, HW.out⟩
theorem contains1 {w : World} {bx : Nat} {mv v : Value} {ms : List Bool} {fs : List Int} (h : Ints w v fs) (hcl : ClauseL fs) (hbox : w.cell? ⟨bx, 0, none⟩ = some mv) (hb : Bools w mv ms) :
    Calls Try.prog 42 #[v, .func (.func 51) #[] #[.pointer (some ⟨bx, 0, none⟩)]] w fun e w' => e = .returned (.bool (!fixB fs ms)) ∧ Below w.heap.size w w' := by
  have HI := Lib.hid (index1 h hcl hbox hb)
  have he := ixL_fixB fs ms
  generalize ixL fs ms = z at he HI
  obtain ⟨ans, hans⟩ : ∃ ans, ans = !fixB fs ms := ⟨_, rfl⟩
  rw [← hans] at he ⊢
  obtain ⟨a, cap, rfl, -⟩ := h
  generalize fs.length = n at *
  clear hcl hbox hb hans
  go_enter Try.func42, Try.ntmps42
  go_wp2_with fail
  refine HI.out.mono ?_
  rintro e w1 ⟨rfl, hq⟩
  have HQ := Lib.hid hq
  clear hq
  go_wp2
  go_ret
  exact ⟨rfl, HQ.out⟩
end Go.Proofs.Ytkofhilgehhopaa
