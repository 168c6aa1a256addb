/-
  Clauses: their order; slices.SortFunc at literals; Norm.
-/
import Derived.Test.YtjldiojlmbgphaaClB
namespace Go.Proofs.Ytjldiojlmbgphaa
open Go.ChangeShapes Go.WideShapes Go.ChangeAt Go.RowKit
open Go.Sort (SWO PermIn SortedIn Holds grow putRow putCells mapBlock alloc_eq_grow)
set_option linter.unusedVariables false
def cmpI (x y : Int) : Int := if x < y then -1 else if y < x then 1 else 0
def orI (a b : Int) : Int := if a = 0 then b else a
def cfK (x y : Lit0) : Int := orI (cmpI (absI x.1) (absI y.1)) (cmpI y.1 x.1)
theorem lt_cfK (x y : Lit0) : ltOf cfK x y = decide (key x.1 < key y.1) := by
  unfold ltOf
  rw [Bool.eq_iff_iff, decide_eq_true_eq, decide_eq_true_eq, key_lt]
  unfold cfK orI cmpI
  constructor
  · intro h
    (repeat' split at h) <;> omega
  · intro h
    (repeat' split) <;> omega
theorem swoK : SWO (ltOf cfK) where
  irrefl x := by rw [lt_cfK]; simp
  trans x y z h1 h2 := by rw [lt_cfK] at *; simp at *; omega
  ntrans x y z h1 h2 := by rw [lt_cfK] at *; simp at *; omega
theorem cmp_Compare (x y : Int) (w : World) : Calls Try.prog 42 #[.int .i64 x, .int .i64 y] w fun e w' => e = .returned (.int .i64 (cmpI x y)) ∧ w = w' := by
  rcases Int.lt_trichotomy x y with h | h | h
  · have e : cmpI x y = -1 := by unfold cmpI; rw [if_pos h]
    rw [e]
    clear e
    go_enter Try.func42, Try.ntmps42
    go_wp2
    go_ret
    exact ⟨rfl, rfl⟩
  · subst h
    have e : cmpI x x = 0 := by unfold cmpI; simp
    rw [e]
    clear e
    go_enter Try.func42, Try.ntmps42
    go_wp2
    go_ret
    exact ⟨rfl, rfl⟩
  · have e : cmpI x y = 1 := by unfold cmpI; rw [if_neg (by omega), if_pos h]
    rw [e]
    clear e
    have h' : ¬ x < y := by omega
    go_enter Try.func42, Try.ntmps42
    go_wp2
    go_ret
    exact ⟨rfl, rfl⟩
set_option maxHeartbeats 1000000 in
theorem cmp_Or {w : World} {g : Nat} {a b : Int} (h0 : w.cell? ⟨g, 0, none⟩ = some (.int .i64 a)) (h1 : w.cell? ⟨g, 1, none⟩ = some (.int .i64 b)) :
    Calls Try.prog 41 #[.slice (some ⟨g, 0, none⟩) 2 2] w fun e w' => e = .returned (.int .i64 (orI a b)) ∧ w = w' := by
  by_cases ha : a = 0
  · subst ha
    have e : orI 0 b = b := by unfold orI; simp
    rw [e]
    clear e
    by_cases hb : b = 0
    · subst hb
      go_enter Try.func41, Try.ntmps41
      go_wp2
      go_loopw [5, 8] (fun _ i wr => ∃ k : Nat, k ≤ 2 ∧ i = .int .i64 k ∧ wr = w) (fun _ i _ => 2 - (intOf i).toNat)
      case atStart => exact ⟨0, Nat.zero_le _, rfl, rfl⟩
      case round =>
        obtain ⟨k, hk, rfl, rfl⟩ := hrel
        rcases (show k = 0 ∨ k = 1 ∨ k = 2 by omega) with rfl | rfl | rfl
        · go_wp2
          go_roundw
          case rel => exact ⟨1, by omega, rfl, trivial⟩
          case measure => simp [intOf]
        · go_wp2
          go_roundw
          case rel => exact ⟨2, by omega, rfl, trivial⟩
          case measure => simp [intOf]
        · go_wp2
          go_ret
          exact ⟨rfl, rfl⟩
    · have hb' : (b != 0) = true := by rw [bne_iff_ne]; exact hb
      clear hb
      go_enter Try.func41, Try.ntmps41
      go_wp2
      go_loopw [5, 8] (fun _ i wr => ∃ k : Nat, k ≤ 1 ∧ i = .int .i64 k ∧ wr = w) (fun _ i _ => 2 - (intOf i).toNat)
      case atStart => exact ⟨0, Nat.zero_le _, rfl, rfl⟩
      case round =>
        obtain ⟨k, hk, rfl, rfl⟩ := hrel
        rcases (show k = 0 ∨ k = 1 by omega) with rfl | rfl
        · go_wp2
          go_roundw
          case rel => exact ⟨1, by omega, rfl, trivial⟩
          case measure => simp [intOf]
        · go_wp2
          go_ret
          exact ⟨rfl, rfl⟩
  · have e : orI a b = a := by unfold orI; rw [if_neg ha]
    rw [e]
    clear e
    have ha' : (a != 0) = true := by rw [bne_iff_ne]; exact ha
    clear ha
    go_enter Try.func41, Try.ntmps41
    go_wp2
    go_loopw [5, 8] (fun _ i wr => i = .int .i64 0 ∧ wr = w) (fun _ i _ => 2 - (intOf i).toNat)
    case atStart => exact ⟨rfl, rfl⟩
    case round =>
      obtain ⟨rfl, rfl⟩ := hrel
      go_wp2
      go_ret
      exact ⟨rfl, rfl⟩
theorem cl_compare (x y : Lit0) (w : World) : Calls Try.prog 32 #[.int .i64 x.1, .int .i64 y.1] w fun e w' => e = .returned (.int .i64 (cfK x y)) ∧ ∃ q os', w' = grow (w.drewN q) os' := by
  obtain ⟨x, hx⟩ := x
  obtain ⟨y, hy⟩ := y
  obtain ⟨c1, hc1⟩ : ∃ c, c = cmpI (absI x) (absI y) := ⟨_, rfl⟩
  obtain ⟨c2, hc2⟩ : ∃ c, c = cmpI y x := ⟨_, rfl⟩
  have k1 := cmp_Compare (absI x) (absI y) w
  have k2 := cmp_Compare y x w
  rw [← hc1] at k1
  rw [← hc2] at k2
  have e : cfK ⟨x, hx⟩ ⟨y, hy⟩ = orI c1 c2 := by unfold cfK; rw [hc1, hc2]
  rw [e]
  have b1 : (w.alloc (.cells #[.int .i64 c1, .int .i64 c2] 3)).cell? ⟨w.heap.size, 0, none⟩ = some (.int .i64 c1) := (Blk.new w 3 _).cell 0
  have b2 : (w.alloc (.cells #[.int .i64 c1, .int .i64 c2] 3)).cell? ⟨w.heap.size, 1, none⟩ = some (.int .i64 c2) := (Blk.new w 3 _).cell 1
  have k3 := cmp_Or b1 b2
  have a1 := cl_abs x hx w
  have a2 := cl_abs y hy w
  have K1 := Lib.hid k1
  have K2 := Lib.hid k2
  have K3 := Lib.hid k3
  have A1 := Lib.hid a1
  have A2 := Lib.hid a2
  clear k1 k2 k3 a1 a2 e hc1 hc2 b1 b2
  simp only
  go_enter Try.func32, Try.ntmps32
  go_wp2_with fail
  refine A1.out.mono ?_
  rintro e w1 ⟨rfl, rfl⟩
  go_wp2_with fail
  refine A2.out.mono ?_
  rintro e w1 ⟨rfl, rfl⟩
  go_wp2_with fail
  refine K1.out.mono ?_
  rintro e w1 ⟨rfl, rfl⟩
  go_wp2_with fail
  refine K2.out.mono ?_
  rintro e w1 ⟨rfl, rfl⟩
  go_wp2_with ((go_at_call 41; refine (K3.out).mono ?_; rintro e w' ⟨rfl, rfl⟩))
  go_ret
  exact ⟨rfl, 0, _, by rw [alloc_eq_grow]; rfl⟩
theorem putRow_Z (w : World) (blk off : Nat) (d : Array Lit0) : putRow encL w blk off d = putRow (Value.int .i64) w blk off (d.map fun x : Lit0 => x.1) := by
  unfold putRow
  congr 1
  funext c
  unfold putCells
  apply Array.ext (by simp)
  intro i h1 h2
  simp only [Array.getElem_mapIdx, Array.size_map]
  split
  · rename_i h
    have hi : i - off < d.size := by omega
    rw [getElem!_pos d _ hi, getElem!_pos (d.map fun x : Lit0 => x.1) _ (by simpa using hi)]
    simp [encL]
  · rfl
theorem sort_noneF (A : Option Addr) (cap : Nat) (fv : Value) (w : World) : Calls Try.prog 31 #[.slice A 0 cap, fv] w fun e w' => e = .returned (.tuple #[]) ∧ w = w' :=
  (AnyF.slices_SortFunc_none Try.sortF0 A cap fv w).mono fun e w' h => ⟨h.1, h.2.symm⟩
def SortedK (w w' : World) (v : Value) (xs : List Int) : Prop := ∃ ys : List Int, ys.Perm xs ∧ (ys.Pairwise fun a b => key a ≤ key b) ∧ OwnI w w' v ys
theorem sort_someF {w wr : World} {g cap : Nat} {cur : Array Value} {xs : List Int} (hcl : ClauseL xs) (hb : Below w.heap.size w wr) (hg : w.heap.size ≤ g) (h : wr.heap[g]? = some (.cells cur 3 (0, 0))) (h1 : xs.length ≤ cap) (h2 : cap ≤ maxLen) (h3 : cur.size = cap * 1) (h4 : cur.toList.take xs.length = xs.map (Value.int .i64)) (hs : xs.length < 4611686018427387904) :
    Calls Try.prog 31 #[.slice (some ⟨g, 0, none⟩) xs.length cap, .func (.func 32) #[] #[]] wr fun e w' => e = .returned (.tuple #[]) ∧ SortedK w w' (.slice (some ⟨g, 0, none⟩) xs.length cap) xs := by
  have hlt : g < wr.heap.size := (Array.getElem?_eq_some_iff.1 h).1
  have eg : ∀ args w, (callFunc 32 args).run Try.prog w = .ok (.enter 32 args) w := enters_of Try.func32 (by kernel_rfl) rfl
  have hI : Holds (Value.int .i64) wr g 0 xs.toArray := holds_of_blockI h h4
  have hZ : Holds encL wr g 0 (toZ xs hcl.small).toArray := by
    intro j hj
    have hj' : j < xs.length := by simpa [toZ_len] using hj
    obtain ⟨c1, c2⟩ := hI j (by simpa using hj')
    refine ⟨?_, c2⟩
    rw [c1]
    have e1 := toZ_at xs hcl.small hj'
    have e2 : (toZ xs hcl.small).toArray[j]! = (toZ xs hcl.small)[j]! := by
      rw [getElem!_pos _ j hj, getElem!_pos _ j (by rw [toZ_len]; exact hj')]; simp
    have e3 : xs.toArray[j]! = xs.getD j 0 := by rw [getElem!_pos _ j (by simpa using hj')]; simp [List.getD, hj']
    unfold encL
    rw [e2, e1, e3]
  have hcmp : CmpLays1 Try.prog 32 #[] encL cfK g 0 (toZ xs hcl.small).toArray.size wr := fun m os dk hsz x y => cl_compare x y _
  have hcon := Any.slices_SortFunc Try.sortF encL (fun x => rfl) cfK swoK 32 #[] g 0 cap (toZ xs hcl.small).toArray wr eg hcmp hZ hlt (by simpa [toZ_len] using hs)
  rw [show (toZ xs hcl.small).toArray.size = xs.length by simp [toZ_len]] at hcon
  refine hcon.mono fun e w' ⟨he, d', n, os, hp, hsrt, hw⟩ => ⟨he, ?_⟩
  subst hw
  obtain ⟨hp1, -, hp2⟩ := hp
  have hsz : d'.size = xs.length := by simpa [toZ_len] using hp1
  have e1 : (d'.extract 0 xs.length).toList = d'.toList := by rw [← hsz]; simp
  have e2 : ((toZ xs hcl.small).toArray.extract 0 xs.length).toList = toZ xs hcl.small := by
    rw [← toZ_len xs hcl.small]; simp
  rw [e1, e2] at hp2
  have hys : ((d'.map fun x : Lit0 => x.1).toList).length = xs.length := by simp [hsz]
  refine ⟨(d'.map fun x : Lit0 => x.1).toList, ?_, ?_, ?_⟩
  · have := hp2.map (fun x : Lit0 => x.1)
    rw [toZ_map] at this
    simpa using this
  · rw [List.pairwise_iff_getElem]
    intro i j hi hj hij
    have hi' : i < d'.size := by simpa using hi
    have hj' : j < d'.size := by simpa using hj
    have := hsrt i j (Nat.zero_le _) hij (by rw [← hsz]; exact hj')
    rw [lt_cfK, getElem!_pos d' i hi', getElem!_pos d' j hj'] at this
    have := of_decide_eq_false this
    simp only [Array.toList_map, List.getElem_map, Array.getElem_toList]
    omega
  · have ht := OwnI.turned (os := os) (n := n) (ts := (d'.map fun x : Lit0 => x.1).toList) hb hg h hys h1 h2 h3
    rw [Array.toArray_toList, ← putRow_Z] at ht
    exact ht
end Go.Proofs.Ytjldiojlmbgphaa
