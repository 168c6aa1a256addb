/-
  Package clause at other chapters: Norm, walked.
-/
import Derived.Test.YtknpfopepedmmaaR17N
import Derived.Test.YtknpfopepedmmaaComp
import Derived.Deep.RegionHeld3
import Derived.Deep.DrawnRows
import Derived.IntWalk
namespace Go.Proofs.Ytknpfopepedmmaa
open Go.ChangeShapes Go.WideShapes Go.ChangeAt Go.RowKit
open Go.Sort (SWO PermIn SortedIn Holds grow putRow putCells mapBlock alloc_eq_grow)
set_option linter.unusedVariables false
attribute [local go_sem ↓] Go.wp_at_zero Go.wp_at_succ
theorem cl_abs (x : Int) (h : small x) (w : World) : Calls Try.prog 81 #[.int .i64 x] w fun e w' => e = .returned (.int .i64 (absI x)) ∧ w = w' := by
  obtain ⟨h0, h1⟩ := h
  go_enter Try.func81, Try.ntmps81
  go_wp2
  all_goals
    go_ret
    refine ⟨congrArg (fun z => Ending.returned (Value.int IntKind.i64 z)) ?_, rfl⟩
    unfold absI
    (try simp only [Int.max_def])
    (repeat (first | omega | split))
/-! ### literals as a type of their own -/
abbrev Lit0 := {x : Int // small x}
instance : Inhabited Lit0 := ⟨⟨0, by unfold small; omega⟩⟩
def encL (x : Lit0) : Value := .int .i64 x.1
def toZ (l : List Int) (h : ∀ x ∈ l, small x) : List Lit0 := l.pmap Subtype.mk h
theorem toZ_map (l : List Int) (h : ∀ x ∈ l, small x) : (toZ l h).map (fun x : Lit0 => x.1) = l := by
  unfold toZ
  rw [List.map_pmap]
  simp
theorem toZ_len (l : List Int) (h : ∀ x ∈ l, small x) : (toZ l h).length = l.length := by simp [toZ]
theorem toZ_at (l : List Int) (h : ∀ x ∈ l, small x) {j : Nat} (hj : j < l.length) : ((toZ l h)[j]!).1 = l.getD j 0 := by
  have hj' : j < (toZ l h).length := by rw [toZ_len]; exact hj
  rw [getElem!_pos _ j hj']
  have e : ((toZ l h)[j]).1 = l[j] := by simp [toZ]
  rw [e]
  simp [List.getD, hj]
theorem toZ_any (l : List Int) (h : ∀ x ∈ l, small x) (p : Int → Bool) : (toZ l h).any (fun x => p x.1) = l.any p := by
  have := congrArg (fun m => List.any m p) (toZ_map l h)
  simp only [List.any_map] at this
  exact this
def cmpI (x y : Int) : Int := if x < y then -1 else if y < x then 1 else 0
def orI (a b : Int) : Int := if a = 0 then b else a
def cfK (x y : Lit0) : Int := orI (cmpI (absI x.1) (absI y.1)) (cmpI y.1 x.1)
theorem lt_cfK (x y : Lit0) : ltOf cfK x y = decide (key x.1 < key y.1) := by
  unfold ltOf
  rw [Bool.eq_iff_iff, decide_eq_true_eq, decide_eq_true_eq, key_lt]
  unfold cfK orI cmpI
  constructor
  · intro h
    (repeat' split at h) <;> omega
  · intro h
    (repeat' split) <;> omega
theorem swoK : SWO (ltOf cfK) where
  irrefl x := by rw [lt_cfK]; simp
  trans x y z h1 h2 := by rw [lt_cfK] at *; simp at *; omega
  ntrans x y z h1 h2 := by rw [lt_cfK] at *; simp at *; omega
theorem cmp_Compare (x y : Int) (w : World) : Calls Try.prog 80 #[.int .i64 x, .int .i64 y] w fun e w' => e = .returned (.int .i64 (cmpI x y)) ∧ w = w' := by
  rcases Int.lt_trichotomy x y with h | h | h
  · have e : cmpI x y = -1 := by unfold cmpI; rw [if_pos h]
    rw [e]
    clear e
    go_enter Try.func80, Try.ntmps80
    go_wp2
    go_ret
    exact ⟨rfl, rfl⟩
  · subst h
    have e : cmpI x x = 0 := by unfold cmpI; simp
    rw [e]
    clear e
    go_enter Try.func80, Try.ntmps80
    go_wp2
    go_ret
    exact ⟨rfl, rfl⟩
  · have e : cmpI x y = 1 := by unfold cmpI; rw [if_neg (by omega), if_pos h]
    rw [e]
    clear e
    have h' : ¬ x < y := by omega
    go_enter Try.func80, Try.ntmps80
    go_wp2
    go_ret
    exact ⟨rfl, rfl⟩
set_option maxHeartbeats 1000000 in
theorem cmp_Or {w : World} {g : Nat} {a b : Int} (h0 : w.cell? ⟨g, 0, none⟩ = some (.int .i64 a)) (h1 : w.cell? ⟨g, 1, none⟩ = some (.int .i64 b)) :
    Calls Try.prog 79 #[.slice (some ⟨g, 0, none⟩) 2 2] w fun e w' => e = .returned (.int .i64 (orI a b)) ∧ w = w' := by
  by_cases ha : a = 0
  · subst ha
    have e : orI 0 b = b := by unfold orI; simp
    rw [e]
    clear e
    by_cases hb : b = 0
    · subst hb
      go_enter Try.func79, Try.ntmps79
      go_wp2
      go_loopw [5, 8] (fun _ i wr => ∃ k : Nat, k ≤ 2 ∧ i = .int .i64 k ∧ wr = w) (fun _ i _ => 2 - (intOf i).toNat)
      case atStart => exact ⟨0, Nat.zero_le _, rfl, rfl⟩
      case round =>
        obtain ⟨k, hk, rfl, rfl⟩ := hrel
        rcases (show k = 0 ∨ k = 1 ∨ k = 2 by omega) with rfl | rfl | rfl
        · go_wp2
          go_roundw
          case rel => exact ⟨1, by omega, rfl, trivial⟩
          case measure => simp [intOf]
        · go_wp2
          go_roundw
          case rel => exact ⟨2, by omega, rfl, trivial⟩
          case measure => simp [intOf]
        · go_wp2
          go_ret
          exact ⟨rfl, rfl⟩
    · have hb' : (b != 0) = true := by rw [bne_iff_ne]; exact hb
      clear hb
      go_enter Try.func79, Try.ntmps79
      go_wp2
      go_loopw [5, 8] (fun _ i wr => ∃ k : Nat, k ≤ 1 ∧ i = .int .i64 k ∧ wr = w) (fun _ i _ => 2 - (intOf i).toNat)
      case atStart => exact ⟨0, Nat.zero_le _, rfl, rfl⟩
      case round =>
        obtain ⟨k, hk, rfl, rfl⟩ := hrel
        rcases (show k = 0 ∨ k = 1 by omega) with rfl | rfl
        · go_wp2
          go_roundw
          case rel => exact ⟨1, by omega, rfl, trivial⟩
          case measure => simp [intOf]
        · go_wp2
          go_ret
          exact ⟨rfl, rfl⟩
  · have e : orI a b = a := by unfold orI; rw [if_neg ha]
    rw [e]
    clear e
    have ha' : (a != 0) = true := by rw [bne_iff_ne]; exact ha
    clear ha
    go_enter Try.func79, Try.ntmps79
    go_wp2
    go_loopw [5, 8] (fun _ i wr => i = .int .i64 0 ∧ wr = w) (fun _ i _ => 2 - (intOf i).toNat)
    case atStart => exact ⟨rfl, rfl⟩
    case round =>
      obtain ⟨rfl, rfl⟩ := hrel
      go_wp2
      go_ret
      exact ⟨rfl, rfl⟩
theorem cl_compare (x y : Lit0) (w : World) : Calls Try.prog 65 #[.int .i64 x.1, .int .i64 y.1] w fun e w' => e = .returned (.int .i64 (cfK x y)) ∧ ∃ q os', w' = grow (w.drewN q) os' := by
  obtain ⟨x, hx⟩ := x
  obtain ⟨y, hy⟩ := y
  obtain ⟨c1, hc1⟩ : ∃ c, c = cmpI (absI x) (absI y) := ⟨_, rfl⟩
  obtain ⟨c2, hc2⟩ : ∃ c, c = cmpI y x := ⟨_, rfl⟩
  have k1 := cmp_Compare (absI x) (absI y) w
  have k2 := cmp_Compare y x w
  rw [← hc1] at k1
  rw [← hc2] at k2
  have e : cfK ⟨x, hx⟩ ⟨y, hy⟩ = orI c1 c2 := by unfold cfK; rw [hc1, hc2]
  rw [e]
  have b1 : (w.alloc (.cells #[.int .i64 c1, .int .i64 c2] 3)).cell? ⟨w.heap.size, 0, none⟩ = some (.int .i64 c1) := (Blk.new w 3 _).cell 0
  have b2 : (w.alloc (.cells #[.int .i64 c1, .int .i64 c2] 3)).cell? ⟨w.heap.size, 1, none⟩ = some (.int .i64 c2) := (Blk.new w 3 _).cell 1
  have k3 := cmp_Or b1 b2
  have a1 := cl_abs x hx w
  have a2 := cl_abs y hy w
  have K1 := Lib.hid k1
  have K2 := Lib.hid k2
  have K3 := Lib.hid k3
  have A1 := Lib.hid a1
  have A2 := Lib.hid a2
  clear k1 k2 k3 a1 a2 e hc1 hc2 b1 b2
  simp only
  go_enter Try.func65, Try.ntmps65
  go_wp2_with fail
  refine A1.out.mono ?_
  rintro e w1 ⟨rfl, rfl⟩
  go_wp2_with fail
  refine A2.out.mono ?_
  rintro e w1 ⟨rfl, rfl⟩
  go_wp2_with fail
  refine K1.out.mono ?_
  rintro e w1 ⟨rfl, rfl⟩
  go_wp2_with fail
  refine K2.out.mono ?_
  rintro e w1 ⟨rfl, rfl⟩
  go_wp2_with ((go_at_call 79; refine (K3.out).mono ?_; rintro e w' ⟨rfl, rfl⟩))
  go_ret
  exact ⟨rfl, 0, _, by rw [alloc_eq_grow]; rfl⟩
theorem putRow_Z (w : World) (blk off : Nat) (d : Array Lit0) : putRow encL w blk off d = putRow (Value.int .i64) w blk off (d.map fun x : Lit0 => x.1) := by
  unfold putRow
  congr 1
  funext c
  unfold putCells
  apply Array.ext (by simp)
  intro i h1 h2
  simp only [Array.getElem_mapIdx, Array.size_map]
  split
  · rename_i h
    have hi : i - off < d.size := by omega
    rw [getElem!_pos d _ hi, getElem!_pos (d.map fun x : Lit0 => x.1) _ (by simpa using hi)]
    simp [encL]
  · rfl
theorem sort_noneF (A : Option Addr) (cap : Nat) (fv : Value) (w : World) : Calls Try.prog 64 #[.slice A 0 cap, fv] w fun e w' => e = .returned (.tuple #[]) ∧ w = w' :=
  (AnyF.slices_SortFunc_none Try.sortF0 A cap fv w).mono fun e w' h => ⟨h.1, h.2.symm⟩
def SortedK (w w' : World) (v : Value) (xs : List Int) : Prop := ∃ ys : List Int, ys.Perm xs ∧ (ys.Pairwise fun a b => key a ≤ key b) ∧ OwnI w w' v ys
theorem sort_someF {w wr : World} {g cap : Nat} {cur : Array Value} {xs : List Int} (hcl : ClauseL xs) (hb : Below w.heap.size w wr) (hg : w.heap.size ≤ g) (h : wr.heap[g]? = some (.cells cur 3 (0, 0))) (h1 : xs.length ≤ cap) (h2 : cap ≤ maxLen) (h3 : cur.size = cap * 1) (h4 : cur.toList.take xs.length = xs.map (Value.int .i64)) (hs : xs.length < 4611686018427387904) :
    Calls Try.prog 64 #[.slice (some ⟨g, 0, none⟩) xs.length cap, .func (.func 65) #[] #[]] wr fun e w' => e = .returned (.tuple #[]) ∧ SortedK w w' (.slice (some ⟨g, 0, none⟩) xs.length cap) xs := by
  have hlt : g < wr.heap.size := (Array.getElem?_eq_some_iff.1 h).1
  have eg : ∀ args w, (callFunc 65 args).run Try.prog w = .ok (.enter 65 args) w := enters_of Try.func65 (by kernel_rfl) rfl
  have hI : Holds (Value.int .i64) wr g 0 xs.toArray := holds_of_blockI h h4
  have hZ : Holds encL wr g 0 (toZ xs hcl.small).toArray := by
    intro j hj
    have hj' : j < xs.length := by simpa [toZ_len] using hj
    obtain ⟨c1, c2⟩ := hI j (by simpa using hj')
    refine ⟨?_, c2⟩
    rw [c1]
    have e1 := toZ_at xs hcl.small hj'
    have e2 : (toZ xs hcl.small).toArray[j]! = (toZ xs hcl.small)[j]! := by
      rw [getElem!_pos _ j hj, getElem!_pos _ j (by rw [toZ_len]; exact hj')]; simp
    have e3 : xs.toArray[j]! = xs.getD j 0 := by rw [getElem!_pos _ j (by simpa using hj')]; simp [List.getD, hj']
    unfold encL
    rw [e2, e1, e3]
  have hcmp : CmpLays1 Try.prog 65 #[] encL cfK g 0 (toZ xs hcl.small).toArray.size wr := fun m os dk hsz x y => cl_compare x y _
  have hcon := Any.slices_SortFunc Try.sortF encL (fun x => rfl) cfK swoK 65 #[] g 0 cap (toZ xs hcl.small).toArray wr eg hcmp hZ hlt (by simpa [toZ_len] using hs)
  rw [show (toZ xs hcl.small).toArray.size = xs.length by simp [toZ_len]] at hcon
  refine hcon.mono fun e w' ⟨he, d', n, os, hp, hsrt, hw⟩ => ⟨he, ?_⟩
  subst hw
  obtain ⟨hp1, -, hp2⟩ := hp
  have hsz : d'.size = xs.length := by simpa [toZ_len] using hp1
  have e1 : (d'.extract 0 xs.length).toList = d'.toList := by rw [← hsz]; simp
  have e2 : ((toZ xs hcl.small).toArray.extract 0 xs.length).toList = toZ xs hcl.small := by
    rw [← toZ_len xs hcl.small]; simp
  rw [e1, e2] at hp2
  have hys : ((d'.map fun x : Lit0 => x.1).toList).length = xs.length := by simp [hsz]
  refine ⟨(d'.map fun x : Lit0 => x.1).toList, ?_, ?_, ?_⟩
  · have := hp2.map (fun x : Lit0 => x.1)
    rw [toZ_map] at this
    simpa using this
  · rw [List.pairwise_iff_getElem]
    intro i j hi hj hij
    have hi' : i < d'.size := by simpa using hi
    have hj' : j < d'.size := by simpa using hj
    have := hsrt i j (Nat.zero_le _) hij (by rw [← hsz]; exact hj')
    rw [lt_cfK, getElem!_pos d' i hi', getElem!_pos d' j hj'] at this
    have := of_decide_eq_false this
    simp only [Array.toList_map, List.getElem_map, Array.getElem_toList]
    omega
  · have ht := OwnI.turned (os := os) (n := n) (ts := (d'.map fun x : Lit0 => x.1).toList) hb hg h hys h1 h2 h3
    rw [Array.toArray_toList, ← putRow_Z] at ht
    exact ht
theorem fine_norm (l : List Int) : fineC l = fineC (normC l) := fineC_mem fun a => (mem_normC l a).symm
theorem length_of_mem {l ys : List Int} (h : ys.Perm l) : ys.length = l.length := h.length_eq
/-- Rounds over a clause in order. -/
def AdjRel (xs : List Int) (k : Nat) : Prop := ∀ i, 0 < i → i < k → xs.getD i 0 ≠ -(xs.getD (i - 1) 0)
set_option maxHeartbeats 2000000 in
set_option maxRecDepth 100000 in
theorem cl_Norm {w : World} {v : Value} {l : List Int} (h : Ints w v l) (hcl : ClauseL l) (hs : l.length ≤ 1000000) :
    Calls Try.prog 37 #[v] w fun e w' => ∃ u, e = .returned (.tuple #[u, .bool (fineC l)]) ∧ NormPost w w' u l := by
  have HI := Lib.hid h
  have HCL := Lib.hid hcl
  have HL := Lib.hid hs
  clear h hcl hs
  obtain ⟨ans, hans⟩ : ∃ b, b = fineC l := ⟨_, rfl⟩
  rw [← hans]
  have HA := Lib.hid hans
  clear hans
  go_enter Try.func37, Try.ntmps37
  go_wp2_with fail
  refine (slices_Clone HI.out (by have := HL.out; omega)).mono ?_
  rintro e w1 ⟨u, rfl, hc⟩
  have hO : OwnI w w1 u l := ⟨hc.1, hc.2.2, hc.2.1⟩
  rcases hO.form2 with ⟨rfl, rfl⟩ | ⟨g, cap, cur, rfl, hg, hb, h1, h2, h3, h4⟩
  · have HO := Lib.hid hO.2.1
    have HZ : Hid (ans = true) := Lib.hid (by rw [HA.out]; rfl)
    clear hc hO
    go_wp2_with fail
    refine (sort_noneF _ _ _ _).mono ?_
    rintro e w2 ⟨rfl, rfl⟩
    go_wp2_with fail
    refine (comp_none _ _ _).mono ?_
    rintro e w2 ⟨rfl, rfl⟩
    go_wp2_with fail
    go_loopw [5, 14] (fun _ i wr => i = .int .i64 0 ∧ wr = w1) (fun _ i _ => 0)
    case atStart => exact ⟨rfl, rfl⟩
    case round =>
      obtain ⟨rfl, rfl⟩ := hrel
      go_wp2
      go_ret2
      exact ⟨.slice none 0 0, by rw [HZ.out]; rfl, ⟨World.ownsRow_nil _ _ _ _, HO.out, fun k hk => by simp [Value.ownBlock] at hk⟩⟩
  · have HO := Lib.hid hO
    have H1 := Lib.hid h1
    have H2 := Lib.hid h2
    have H3 := Lib.hid h3
    have H4 := Lib.hid h4
    have HB := Lib.hid hb
    have HG := Lib.hid hg
    clear hc hO h1 h2 h3 h4 hb hg
    obtain ⟨n, hn⟩ : ∃ n, n = l.length := ⟨_, rfl⟩
    have HS : Hid (Calls Try.prog 64 #[.slice (some ⟨g, 0, none⟩) n cap, .func (.func 65) #[] #[]] w1 fun e w' => e = .returned (.tuple #[]) ∧ SortedK w w' (.slice (some ⟨g, 0, none⟩) n cap) l) := Lib.hid (by
      rw [hn]; exact sort_someF HCL.out HO.out.2.1 HG.out HB.out H1.out H2.out H3.out H4.out (by have := HL.out; omega))
    rw [← hn]
    have HN := Lib.hid hn
    clear hn
    go_wp2_with fail
    refine HS.out.mono ?_
    rintro e w2 ⟨rfl, ys, hp, hk, ho⟩
    have hlen := length_of_mem hp
    have HK : Hid (Lib.compact ys = normC l) := Lib.hid (compactK_norm (fun a => hp.mem_iff) hk)
    have HC : Hid (Calls Try.prog 66 #[.slice (some ⟨g, 0, none⟩) n cap] w2 fun e w' => ∃ u, e = .returned u ∧ OwnI w w' u (Lib.compact ys)) := by
      refine Lib.hid ?_
      rcases ho.form2 with ⟨e, -⟩ | ⟨g', cap', cur', e, a0, a1, a2, a3, a4, a5⟩
      · cases e
      · injection e with e1 e2 e3
        injection e1 with e1
        injection e1 with e1
        subst e1 e3
        have := comp_some ho.2.1 a0 a1 a2 a3 a4 a5 (by rw [hlen]; have := HL.out; omega)
        rw [← e2] at this
        exact this
    clear hp hk ho hlen
    go_wp2_with fail
    refine HC.out.mono ?_
    rintro e w3 ⟨u, rfl, ho⟩
    rw [HK.out] at ho
    obtain ⟨A, cap2, rfl, hcp1, hcp2⟩ := ho.form
    have HF : Hid ((ans = true ↔ AdjRel (normC l) (normC l).length)) := Lib.hid (by rw [HA.out, fine_norm]; exact fineC_adj (strict_normC l) (clause_normC HCL.out))
    have HXS : Hid (ClauseL (normC l)) := Lib.hid (clause_normC HCL.out)
    have HML : Hid ((normC l).length ≤ 1000000) := Lib.hid (by have := length_normC l; have := HL.out; omega)
    have HU := Lib.hid ho
    obtain ⟨xs, hxs⟩ : ∃ xs, xs = normC l := ⟨_, rfl⟩
    rw [← hxs] at HF HXS HML HU hcp1 ⊢
    obtain ⟨m, hm⟩ : ∃ m, m = xs.length := ⟨_, rfl⟩
    rw [← hm] at hcp1 HU HML HF ⊢
    have HM := Lib.hid hm
    have HX := Lib.hid hxs
    have hm9 : m ≤ 1000000 := HML.out
    clear ho hxs hm HK HC HS
    go_wp2_with fail
    go_loopw [5, 14] (fun _ i wr => ∃ k : Nat, k ≤ m ∧ i = .int .i64 k ∧ AdjRel xs k ∧ ∃ nq, wr = w3.drewN nq) (fun _ i _ => m - (intOf i).toNat)
    case atStart => exact ⟨0, Nat.zero_le _, rfl, fun i h0 hi => absurd hi (by omega), 0, rfl⟩
    case round =>
      obtain ⟨k, hk, rfl, hadj, nq, rfl⟩ := hrel
      have HJ := Lib.hid hadj
      clear hadj
      by_cases hlt : (k : Int) < (m : Int)
      · have hkm : k < m := by omega
        obtain ⟨g2, hA, q2, -⟩ := HU.out.1.cellI HM.out hkm
        subst hA
        obtain ⟨y, hy⟩ : ∃ y, y = xs.getD k 0 := ⟨_, rfl⟩
        rw [← hy] at q2
        have HY := Lib.hid hy
        clear hy
        by_cases hk0 : k = 0
        · subst hk0
          have c1 : decide ((0 : Int) < ((0 : Nat) : Int)) = false := by decide
          have c2 : decide (0 < 0) = false := by decide
          go_wp2
          go_quiet (fail)
          go_wp2
          go_roundw
          case rel => exact ⟨1, by omega, rfl, fun i h0 hi => absurd hi (by omega), _, rfl⟩
          case measure => simp [intOf]; omega
        · obtain ⟨p, hp⟩ : ∃ p, p + 1 = k := ⟨k - 1, by omega⟩
          obtain ⟨g3, hA3, q3, -⟩ := HU.out.1.cellI HM.out (show p < m by omega)
          have hg3 : g2 = g3 := by injection hA3 with e; injection e
          subst hg3
          obtain ⟨z, hz⟩ : ∃ z, z = xs.getD p 0 := ⟨_, rfl⟩
          rw [← hz] at q3
          have hzb : small z := by rw [hz]; exact small_at HXS.out (by have := HM.out; omega)
          have HZ := Lib.hid hz
          obtain ⟨z0, z1⟩ := hzb
          have hneg : IntKind.i64.wrap (-z) = -z := IntWalk.i64_in _ (by omega)
          have hw : IntKind.i64.wrap ((k : Int) - 1) = (p : Int) := by rw [IntWalk.i64_in _ (by omega)]; omega
          have c1 : decide ((0 : Int) < (k : Int)) = true := decide_eq_true (by omega)
          have c2 : decide (0 < k) = true := decide_eq_true (by omega)
          have hpl : (p : Int) < (m : Int) := by omega
          have HP := Lib.hid hp
          clear hp hz hA3 hk0
          by_cases hyz : y = -z
          · have c3 : (y == -z) = true := by rw [beq_iff_eq]; exact hyz
            have HF2 : Hid (ans = false) := Lib.hid (by
              cases hans : ans
              · rfl
              · have := HF.out.1 hans k (by have := HP.out; omega) hkm
                rw [← HY.out, show k - 1 = p by have := HP.out; omega, ← HZ.out] at this
                exact absurd hyz this)
            clear hyz
            go_wp2
            go_quiet (fail)
            go_wp2
            go_ret2
            refine ⟨.slice (some ⟨g2, 0, none⟩) m cap2, by rw [HF2.out]; rfl, ?_⟩
            unfold NormPost
            rw [← HX.out]
            exact HU.out.below (below_drewN (below_drewN (Below.refl _ _) _) _)
          · have c3 : (y == -z) = false := by rw [beq_eq_false_iff_ne]; exact hyz
            have HN3 := Lib.hid hyz
            clear hyz
            go_wp2
            go_quiet (fail)
            go_wp2
            go_roundw
            case rel =>
              refine ⟨k + 1, by omega, by go_num, fun i h0 hi => ?_, _, rfl⟩
              rcases Nat.lt_or_ge i k with h | h
              · exact HJ.out i h0 h
              · have hik : i = k := by omega
                subst hik
                rw [← HY.out, show i - 1 = p by have := HP.out; omega, ← HZ.out]
                exact HN3.out
            case measure => simp [intOf]; omega
      · have HF2 : Hid (ans = true) := Lib.hid (HF.out.2 (by have e : k = m := by omega
                                                             rw [← e]; exact HJ.out))
        go_wp2
        go_ret2
        refine ⟨.slice A m cap2, by rw [HF2.out]; rfl, ?_⟩
        unfold NormPost
        rw [← HX.out]
        exact HU.out.below (below_drewN (Below.refl _ _) _)
end Go.Proofs.Ytknpfopepedmmaa
