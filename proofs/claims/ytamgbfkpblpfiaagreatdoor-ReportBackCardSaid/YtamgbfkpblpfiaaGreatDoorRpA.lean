/-
  Reports: verdicts' words and faults' names, both ways.
-/
import Derived.Test.YtamgbfkpblpfiaaGreatDoorSeqG
import Derived.Deep.WholeRow
import Derived.Deep.CutBlock
namespace Go.Proofs.YtamgbfkpblpfiaaGreatDoor
open Go.ChangeShapes Go.WideShapes Go.ChangeAt Go.RowKit
set_option linter.unusedVariables false
def wordsL : List (List UInt8) := [[117, 110, 107, 110, 111, 119, 110], [115, 97, 102, 101], [117, 110, 115, 97, 102, 101], [114, 101, 102, 117, 115, 101, 100]]
def namesL : List (List UInt8) := [[111, 107], [98, 97, 100, 97, 114, 103], [115, 121, 110, 116, 97, 120], [104, 101, 97, 100, 101, 114], [110, 117, 109, 98, 101, 114], [100, 97, 110, 103, 108, 105, 110, 103], [116, 119, 105, 99, 101], [109, 105, 115, 115, 105, 110, 103], [99, 121, 99, 108, 101], [119, 105, 100, 116, 104], [108, 105, 109, 105, 116], [111, 114, 100, 101, 114], [116, 114, 117, 110, 99, 97, 116, 101, 100], [116, 114, 97, 105, 108, 105, 110, 103], [105, 108, 108, 101, 103, 97, 108], [115, 112, 101, 110, 116], [119, 114, 111, 110, 103], [98, 105, 103]]
def wordV (v : Int) : List UInt8 := if 0 ≤ v then wordsL.getD v.toNat [] else []
def nameV (v : Int) : List UInt8 := if 0 ≤ v then namesL.getD v.toNat [] else []
theorem wordV_in {k : Nat} (hk : k < 4) : wordV (k : Int) = wordsL.getD k [] := by unfold wordV; rw [if_pos (by omega), Int.toNat_natCast]
theorem nameV_in {k : Nat} (hk : k < 18) : nameV (k : Int) = namesL.getD k [] := by unfold nameV; rw [if_pos (by omega), Int.toNat_natCast]
theorem wordV_out {v : Int} (h : v < 0 ∨ 4 ≤ v) : wordV v = [] := by
  unfold wordV
  split
  · rw [List.getD_eq_getElem?_getD, List.getElem?_eq_none (by show 4 ≤ v.toNat; omega)]; rfl
  · rfl
theorem nameV_out {v : Int} (h : v < 0 ∨ 18 ≤ v) : nameV v = [] := by
  unfold nameV
  split
  · rw [List.getD_eq_getElem?_getD, List.getElem?_eq_none (by show 18 ≤ v.toNat; omega)]; rfl
  · rfl
def wordsA : Array Value := #[.string ⟨#[117, 110, 107, 110, 111, 119, 110]⟩, .string ⟨#[115, 97, 102, 101]⟩, .string ⟨#[117, 110, 115, 97, 102, 101]⟩, .string ⟨#[114, 101, 102, 117, 115, 101, 100]⟩]
def namesA : Array Value := #[.string ⟨#[111, 107]⟩, .string ⟨#[98, 97, 100, 97, 114, 103]⟩, .string ⟨#[115, 121, 110, 116, 97, 120]⟩, .string ⟨#[104, 101, 97, 100, 101, 114]⟩, .string ⟨#[110, 117, 109, 98, 101, 114]⟩, .string ⟨#[100, 97, 110, 103, 108, 105, 110, 103]⟩, .string ⟨#[116, 119, 105, 99, 101]⟩, .string ⟨#[109, 105, 115, 115, 105, 110, 103]⟩, .string ⟨#[99, 121, 99, 108, 101]⟩, .string ⟨#[119, 105, 100, 116, 104]⟩, .string ⟨#[108, 105, 109, 105, 116]⟩, .string ⟨#[111, 114, 100, 101, 114]⟩, .string ⟨#[116, 114, 117, 110, 99, 97, 116, 101, 100]⟩, .string ⟨#[116, 114, 97, 105, 108, 105, 110, 103]⟩, .string ⟨#[105, 108, 108, 101, 103, 97, 108]⟩, .string ⟨#[115, 112, 101, 110, 116]⟩, .string ⟨#[119, 114, 111, 110, 103]⟩, .string ⟨#[98, 105, 103]⟩]
theorem wordsA_at : ∀ (k : Nat), k < 4 → wordsA[k]? = some (.string (bs (wordsL.getD k [])))
  | 0, _ => rfl
  | 1, _ => rfl
  | 2, _ => rfl
  | 3, _ => rfl
  | k + 4, h => absurd h (by omega)
theorem namesA_at : ∀ (k : Nat), k < 18 → namesA[k]? = some (.string (bs (namesL.getD k [])))
  | 0, _ => rfl
  | 1, _ => rfl
  | 2, _ => rfl
  | 3, _ => rfl
  | 4, _ => rfl
  | 5, _ => rfl
  | 6, _ => rfl
  | 7, _ => rfl
  | 8, _ => rfl
  | 9, _ => rfl
  | 10, _ => rfl
  | 11, _ => rfl
  | 12, _ => rfl
  | 13, _ => rfl
  | 14, _ => rfl
  | 15, _ => rfl
  | 16, _ => rfl
  | 17, _ => rfl
  | k + 18, h => absurd h (by omega)
set_option maxRecDepth 100000 in
theorem verdicts_ (w : World) : Calls Tryz.prog 38 #[] w fun e w' => e = .returned (.agg wordsA) ∧ Below w.heap.size w w' := by
  unfold wordsA
  go_enter Tryz.func38, Tryz.ntmps38
  go_wp2
  exact bodyPost_ret (v := .agg #[.string ⟨#[117, 110, 107, 110, 111, 119, 110]⟩, .string ⟨#[115, 97, 102, 101]⟩, .string ⟨#[117, 110, 115, 97, 102, 101]⟩, .string ⟨#[114, 101, 102, 117, 115, 101, 100]⟩]) (by simp [results, Tryz.results38, go_sem]) rfl ⟨rfl, (Below.refl _ _).alloc (Nat.le_refl _) _⟩
set_option maxHeartbeats 1000000 in
set_option maxRecDepth 100000 in
theorem names_ (w : World) : Calls Tryz.prog 43 #[] w fun e w' => e = .returned (.agg namesA) ∧ Below w.heap.size w w' := by
  go_enter Tryz.func43, Tryz.ntmps43
  go_upto_region 1 with (fail)
  have hsz : namesA.size = 18 := by kernel_rfl
  apply wp_region_lit
  refine wpList_build rfl 84 _ rfl (by as_aux_lemma => kernel_rfl) ?_
  have hb : ∀ x, x = namesA → True := fun _ _ => trivial
  refine wpList_store_row rfl 84 _ _ rfl w.heap.size namesA rfl (by as_aux_lemma => kernel_rfl) 84 _ (heap_alloc_new w _) (by as_aux_lemma => kernel_rfl) (by as_aux_lemma => kernel_rfl) (by as_aux_lemma => kernel_rfl) ?_
  apply wpList_nil
  rename_i K hK
  show K _ _
  refine hK _ _ ?_
  clear hK K
  rw [World.setRow_alloc_new]
  refine wp_ret ?_
  refine bodyPost_ret (v := .agg namesA) (results_cell_row (p := 0) (by kernel_rfl) _ _ w.heap.size 84 namesA (0, 0) _ rfl (heap_alloc_new w _) Tryz.underlying84 rfl (by rw [hsz]; kernel_rfl)) rfl ⟨rfl, (Below.refl _ _).alloc (Nat.le_refl _) _⟩
theorem r37_verdicts (w : World) : Calls Tryz.prog 53 #[] w fun e w' => e = .returned (.slice (some ⟨w.heap.size, 0, none⟩) 4 4) ∧ w' = w.alloc (.cells wordsA 9) := by
  unfold wordsA
  go_enter Tryz.func53, Tryz.ntmps53
  go_wp2
  go_ret
  exact ⟨rfl, rfl⟩
theorem r02_Names (w : World) : Calls Tryz.prog 55 #[] w fun e w' => e = .returned (.slice (some ⟨w.heap.size, 0, none⟩) 18 18) ∧ w' = w.alloc (.cells namesA 9) := by
  unfold namesA
  go_enter Tryz.func55, Tryz.ntmps55
  go_wp2
  go_ret
  exact ⟨rfl, rfl⟩
set_option maxRecDepth 100000 in
set_option maxHeartbeats 1000000 in
theorem report_Word_in (k : Nat) (w : World) (hk : k < 4) : Calls Tryz.prog 12 #[.int .i64 (k : Int)] w fun e w' => e = .returned (.string (bs (wordsL.getD k []))) ∧ Below w.heap.size w w' := by
  have ha := wordsA_at k hk
  have c1 : decide ((k : Int) < 0) = false := decide_eq_false (by omega)
  have c2 : decide ((4 : Int) ≤ (k : Int)) = false := decide_eq_false (by omega)
  generalize bs (wordsL.getD k []) = s at *
  have hkk : (k : Int) < 4 := by omega
  have HV := Lib.hid (verdicts_ w)
  have hsz : wordsA.size = 4 := by kernel_rfl
  have hone : wordsA.all (·.oneCell') = true := by kernel_rfl
  have hi : (Tryz.prog.info? 77).map (·.size) = some 4 := by kernel_rfl
  generalize wordsA = cs at *
  have HA := Lib.hid ha
  have hsc := fun w => run_storeCells_new (P := Tryz.prog) w 77 #[.string ⟨#[]⟩, .string ⟨#[]⟩, .string ⟨#[]⟩, .string ⟨#[]⟩] cs (by rw [hsz]; exact hi) (by rw [hsz]; rfl) hone
  clear ha hone hi
  go_enter Tryz.func12, Tryz.ntmps12
  go_wp2_with fail
  refine HV.out.mono ?_
  rintro e w1 ⟨rfl, hb⟩
  have q := (Blk.new w1 77 cs).cell k
  rw [HA.out] at q
  have HB := Lib.hid hb
  clear hb
  go_wp2
  go_ret
  exact ⟨rfl, HB.out.alloc HB.out.size _⟩
set_option maxRecDepth 100000 in
set_option maxHeartbeats 1000000 in
theorem report_Word (v : Int) (w : World) : Calls Tryz.prog 12 #[.int .i64 v] w fun e w' => e = .returned (.string (bs (wordV v))) ∧ Below w.heap.size w w' := by
  by_cases hv : v < 0 ∨ 4 ≤ v
  · rw [wordV_out hv]
    have HV := Lib.hid (verdicts_ w)
    have hsz : wordsA.size = 4 := by kernel_rfl
    have hone : wordsA.all (·.oneCell') = true := by kernel_rfl
    have hi : (Tryz.prog.info? 77).map (·.size) = some 4 := by kernel_rfl
    generalize wordsA = cs at *
    have hsc := fun w => run_storeCells_new (P := Tryz.prog) w 77 #[.string ⟨#[]⟩, .string ⟨#[]⟩, .string ⟨#[]⟩, .string ⟨#[]⟩] cs (by rw [hsz]; exact hi) (by rw [hsz]; rfl) hone
    have e0 : bs [] = ⟨#[]⟩ := rfl
    rw [e0]
    have HC := Lib.hid hv
    clear hone hi hv e0
    go_enter Tryz.func12, Tryz.ntmps12
    go_wp2_with fail
    refine HV.out.mono ?_
    rintro e w1 ⟨rfl, hb⟩
    have HB := Lib.hid hb
    clear hb
    go_wp2
    all_goals first
      | (exfalso; have := HC.out; omega)
      | (go_ret; exact ⟨rfl, HB.out.alloc HB.out.size _⟩)
  · obtain ⟨k, rfl⟩ : ∃ k : Nat, v = (k : Int) := ⟨v.toNat, by omega⟩
    rw [wordV_in (by omega)]
    exact report_Word_in k w (by omega)
set_option maxRecDepth 100000 in
set_option maxHeartbeats 1000000 in
theorem report_Name_in (k : Nat) (w : World) (hk : k < 18) : Calls Tryz.prog 32 #[.int .i64 (k : Int)] w fun e w' => e = .returned (.string (bs (namesL.getD k []))) ∧ Below w.heap.size w w' := by
  have ha := namesA_at k hk
  have c1 : decide ((k : Int) < 0) = false := decide_eq_false (by omega)
  have c2 : decide ((18 : Int) ≤ (k : Int)) = false := decide_eq_false (by omega)
  generalize bs (namesL.getD k []) = s at *
  have hkk : (k : Int) < 18 := by omega
  have HV := Lib.hid (names_ w)
  have hsz : namesA.size = 18 := by kernel_rfl
  have hone : namesA.all (·.oneCell') = true := by kernel_rfl
  have hi : (Tryz.prog.info? 84).map (·.size) = some 18 := by kernel_rfl
  generalize namesA = cs at *
  have HA := Lib.hid ha
  have hsc := fun w => run_storeCells_new (P := Tryz.prog) w 84 #[.string ⟨#[]⟩, .string ⟨#[]⟩, .string ⟨#[]⟩, .string ⟨#[]⟩, .string ⟨#[]⟩, .string ⟨#[]⟩, .string ⟨#[]⟩, .string ⟨#[]⟩, .string ⟨#[]⟩, .string ⟨#[]⟩, .string ⟨#[]⟩, .string ⟨#[]⟩, .string ⟨#[]⟩, .string ⟨#[]⟩, .string ⟨#[]⟩, .string ⟨#[]⟩, .string ⟨#[]⟩, .string ⟨#[]⟩] cs (by rw [hsz]; exact hi) (by rw [hsz]; rfl) hone
  clear ha hone hi
  go_enter Tryz.func32, Tryz.ntmps32
  go_wp2_with fail
  refine HV.out.mono ?_
  rintro e w1 ⟨rfl, hb⟩
  have q := (Blk.new w1 84 cs).cell k
  rw [HA.out] at q
  have HB := Lib.hid hb
  clear hb
  go_wp2
  go_ret
  exact ⟨rfl, HB.out.alloc HB.out.size _⟩
set_option maxRecDepth 100000 in
set_option maxHeartbeats 1000000 in
theorem report_Name (v : Int) (w : World) : Calls Tryz.prog 32 #[.int .i64 v] w fun e w' => e = .returned (.string (bs (nameV v))) ∧ Below w.heap.size w w' := by
  by_cases hv : v < 0 ∨ 18 ≤ v
  · rw [nameV_out hv]
    have HV := Lib.hid (names_ w)
    have hsz : namesA.size = 18 := by kernel_rfl
    have hone : namesA.all (·.oneCell') = true := by kernel_rfl
    have hi : (Tryz.prog.info? 84).map (·.size) = some 18 := by kernel_rfl
    generalize namesA = cs at *
    have hsc := fun w => run_storeCells_new (P := Tryz.prog) w 84 #[.string ⟨#[]⟩, .string ⟨#[]⟩, .string ⟨#[]⟩, .string ⟨#[]⟩, .string ⟨#[]⟩, .string ⟨#[]⟩, .string ⟨#[]⟩, .string ⟨#[]⟩, .string ⟨#[]⟩, .string ⟨#[]⟩, .string ⟨#[]⟩, .string ⟨#[]⟩, .string ⟨#[]⟩, .string ⟨#[]⟩, .string ⟨#[]⟩, .string ⟨#[]⟩, .string ⟨#[]⟩, .string ⟨#[]⟩] cs (by rw [hsz]; exact hi) (by rw [hsz]; rfl) hone
    have e0 : bs [] = ⟨#[]⟩ := rfl
    rw [e0]
    have HC := Lib.hid hv
    clear hone hi hv e0
    go_enter Tryz.func32, Tryz.ntmps32
    go_wp2_with fail
    refine HV.out.mono ?_
    rintro e w1 ⟨rfl, hb⟩
    have HB := Lib.hid hb
    clear hb
    go_wp2
    all_goals first
      | (exfalso; have := HC.out; omega)
      | (go_ret; exact ⟨rfl, HB.out.alloc HB.out.size _⟩)
  · obtain ⟨k, rfl⟩ : ∃ k : Nat, v = (k : Int) := ⟨v.toNat, by omega⟩
    rw [nameV_in (by omega)]
    exact report_Name_in k w (by omega)
set_option maxRecDepth 100000 in
set_option maxHeartbeats 1000000 in
theorem r37_Word_in (k : Nat) (w : World) (hk : k < 4) : Calls Tryz.prog 63 #[.int .i64 (k : Int)] w fun e w' => e = .returned (.string (bs (wordsL.getD k []))) ∧ Below w.heap.size w w' := by
  have ha := wordsA_at k hk
  have c1 : decide ((k : Int) < 0) = false := decide_eq_false (by omega)
  have c2 : decide ((3 : Int) < (k : Int)) = false := decide_eq_false (by omega)
  have c3 : decide ((4 : Int) ≤ (k : Int)) = false := decide_eq_false (by omega)
  generalize bs (wordsL.getD k []) = s at *
  have hkk : (k : Int) < 4 := by omega
  have HV := Lib.hid (r37_verdicts w)
  have hsz : wordsA.size = 4 := by kernel_rfl
  generalize wordsA = cs at *
  have q := (Blk.new w 9 cs).cell k
  rw [ha] at q
  clear ha hsz
  go_enter Tryz.func63, Tryz.ntmps63
  go_wp2_with fail
  refine HV.out.mono ?_
  rintro e w1 ⟨rfl, rfl⟩
  go_wp2
  go_ret
  exact ⟨rfl, (Below.refl _ _).alloc (Nat.le_refl _) _⟩
set_option maxRecDepth 100000 in
set_option maxHeartbeats 1000000 in
theorem r37_Word (v : Int) (w : World) : Calls Tryz.prog 63 #[.int .i64 v] w fun e w' => e = .returned (.string (bs (wordV v))) ∧ Below w.heap.size w w' := by
  by_cases hv : v < 0 ∨ 4 ≤ v
  · rw [wordV_out hv]
    have e0 : bs [] = ⟨#[]⟩ := rfl
    rw [e0]
    have HC := Lib.hid hv
    clear hv e0
    go_enter Tryz.func63, Tryz.ntmps63
    go_wp2
    all_goals first
      | (go_ret; exact ⟨rfl, Below.refl _ _⟩)
      | (exfalso; have := HC.out; omega)
  · obtain ⟨k, rfl⟩ : ∃ k : Nat, v = (k : Int) := ⟨v.toNat, by omega⟩
    rw [wordV_in (by omega)]
    exact r37_Word_in k w (by omega)
set_option maxRecDepth 100000 in
set_option maxHeartbeats 1000000 in
theorem r02_Name_in (k : Nat) (w : World) (hk : k < 18) : Calls Tryz.prog 64 #[.int .i64 (k : Int)] w fun e w' => e = .returned (.string (bs (namesL.getD k []))) ∧ Below w.heap.size w w' := by
  have ha := namesA_at k hk
  have c1 : decide ((k : Int) < 0) = false := decide_eq_false (by omega)
  have c2 : decide ((17 : Int) < (k : Int)) = false := decide_eq_false (by omega)
  have c3 : decide ((18 : Int) ≤ (k : Int)) = false := decide_eq_false (by omega)
  generalize bs (namesL.getD k []) = s at *
  have hkk : (k : Int) < 18 := by omega
  have HV := Lib.hid (r02_Names w)
  have hsz : namesA.size = 18 := by kernel_rfl
  generalize namesA = cs at *
  have q := (Blk.new w 9 cs).cell k
  rw [ha] at q
  clear ha hsz
  go_enter Tryz.func64, Tryz.ntmps64
  go_wp2_with fail
  refine HV.out.mono ?_
  rintro e w1 ⟨rfl, rfl⟩
  go_wp2
  go_ret
  exact ⟨rfl, (Below.refl _ _).alloc (Nat.le_refl _) _⟩
set_option maxRecDepth 100000 in
set_option maxHeartbeats 1000000 in
theorem r02_Name (v : Int) (w : World) : Calls Tryz.prog 64 #[.int .i64 v] w fun e w' => e = .returned (.string (bs (nameV v))) ∧ Below w.heap.size w w' := by
  by_cases hv : v < 0 ∨ 18 ≤ v
  · rw [nameV_out hv]
    have e0 : bs [] = ⟨#[]⟩ := rfl
    rw [e0]
    have HC := Lib.hid hv
    clear hv e0
    have HV := Lib.hid (r02_Names w)
    generalize namesA = cs at *
    go_enter Tryz.func64, Tryz.ntmps64
    go_wp2_with fail
    refine HV.out.mono ?_
    rintro e w1 ⟨rfl, rfl⟩
    go_wp2
    all_goals first
      | (exfalso; have := HC.out; omega)
      | (go_ret; exact ⟨rfl, (Below.refl _ _).alloc (Nat.le_refl _) _⟩)
  · obtain ⟨k, rfl⟩ : ∃ k : Nat, v = (k : Int) := ⟨v.toNat, by omega⟩
    rw [nameV_in (by omega)]
    exact r02_Name_in k w (by omega)
end Go.Proofs.YtamgbfkpblpfiaaGreatDoor
