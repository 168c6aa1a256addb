/-
  slices' stable sort over nodes: what a sorted array's world is; swapRange.
-/
import Derived.Test.YtgnimegdgphlmaaStL
import Derived.Test.YtgnimegdgphlmaaNetD
import Derived.Test.YtgnimegdgphlmaaFoot
import Derived.BigRegion
import Derived.Deep.CutRange
import Derived.StillTailTactics
import Derived.Deep.RegionHeld3
import Derived.IntWalk
import Derived.Deep.QuietTactic
import Derived.BigQuiet
namespace Go.Proofs.Ytgnimegdgphlmaa
open Go.ChangeShapes Go.WideShapes Go.ChangeAt Go.RowKit
set_option linter.unusedVariables false
set_option linter.unusedSimpArgs false
def ndV (x : NodeD) : Value := .agg #[.bool x.read, .int .i64 x.mem, .int .i64 x.pos]
/-- Where the place of element i lies. -/
def at3 (g i c : Nat) : Addr := ⟨g, i * 3 + c, none⟩
def put3 (W : World) (g i : Nat) (x : NodeD) : World := ((W.setCell ⟨g, i * 3, none⟩ (.bool x.read)).setCell ⟨g, i * 3 + 1, none⟩ (.int .i64 x.mem)).setCell ⟨g, i * 3 + 2, none⟩ (.int .i64 x.pos)
def CmpQ (key : NodeD → Int) (S : List NodeD → World → Prop) (L : List NodeD) (x y : NodeD) (e : Ending) (w' : World) : Prop := ∃ k : Int, e = .returned (.int .i64 k) ∧ (k < 0 ↔ key x < key y) ∧ S L w'
/-- An array of nodes that may be sorted: by its world. -/
structure SEnv (fp : Addr) (key : NodeD → Int) (g n : Nat) (S : List NodeD → World → Prop) : Prop where
  len : ∀ {L W}, S L W → L.length = n
  c0 : ∀ {L W}, S L W → ∀ i, i < n → W.cell? ⟨g, i * 3, none⟩ = some (.bool (L.getD i node0).read)
  c1 : ∀ {L W}, S L W → ∀ i, i < n → W.cell? ⟨g, i * 3 + 1, none⟩ = some (.int .i64 (L.getD i node0).mem)
  c2 : ∀ {L W}, S L W → ∀ i, i < n → W.cell? ⟨g, i * 3 + 2, none⟩ = some (.int .i64 (L.getD i node0).pos)
  fz : ∀ {L W}, S L W → ∀ j, W.frozen? ⟨g, j, none⟩ = false
  swp : ∀ {L W}, S L W → ∀ i j, i < n → j < n → i ≠ j → S (swp node0 L i j) (put3 (put3 W g i (L.getD j node0)) g j (L.getD i node0))
  drew : ∀ {L W}, S L W → ∀ k, S L (W.drewN k)
  cmp : ∀ {L W}, S L W → ∀ i j, i < n → j < n → Calls Try.prog 29 #[ndV (L.getD i node0), ndV (L.getD j node0), .pointer (some fp)] W (CmpQ key S L (L.getD i node0) (L.getD j node0))
  small : n ≤ 1000000
section
variable {fp : Addr} {key : NodeD → Int} {g n : Nat} {S : List NodeD → World → Prop}
def SQ (S : List NodeD → World → Prop) (L : List NodeD) (e : Ending) (w' : World) : Prop := e = .returned (.tuple #[]) ∧ S L w'
set_option maxHeartbeats 4000000 in
theorem swapRange_ (E : SEnv fp key g n S) {W : World} {L : List NodeD} (h : S L W) (cap a b m : Nat) (hm : 0 < m) (ha : a + m ≤ n) (hb : b + m ≤ n) (hab : a ≠ b) :
    Calls Try.prog 68 #[.slice (some ⟨g, 0, none⟩) n cap, .int .i64 (a : Int), .int .i64 (b : Int), .int .i64 (m : Int), .func (.func 29) #[] #[.pointer (some fp)]] W (SQ S (swR node0 L a b m)) := by
  have hn := E.small
  have HE := Lib.hid E
  have HS := Lib.hid h
  clear h E
  go_enter Try.func68, Try.ntmps68
  go_wp2
  go_loopw [10] (fun i wr => ∃ k : Nat, k ≤ m ∧ i = .int .i64 (k : Int) ∧ S (swR node0 L a b k) wr) (fun i _ => m - (intOf i).toNat)
  case atStart => exact ⟨0, Nat.zero_le _, rfl, HS.out⟩
  case round =>
    obtain ⟨k, hk, rfl, hs⟩ := hrel
    by_cases hlt : (k : Int) < (m : Int)
    · have hw1 : IntKind.i64.wrap ((a : Int) + (k : Int)) = (a : Int) + (k : Int) := by simp (disch := omega) only [IntWalk.i64_in]
      have hw2 : IntKind.i64.wrap ((b : Int) + (k : Int)) = (b : Int) + (k : Int) := by simp (disch := omega) only [IntWalk.i64_in]
      have hi1 : (a : Int) + (k : Int) < (n : Int) := by omega
      have hi2 : (b : Int) + (k : Int) < (n : Int) := by omega
      have hi3 : (0 : Int) ≤ (a : Int) + (k : Int) := by omega
      have hi4 : (0 : Int) ≤ (b : Int) + (k : Int) := by omega
      have e1 : ((a : Int) + (k : Int)).toNat = a + k := by omega
      have e2 : ((b : Int) + (k : Int)).toNat = b + k := by omega
      have q0 := HE.out.c0 hs (a + k) (by omega)
      have q1 := HE.out.c1 hs (a + k) (by omega)
      have q2 := HE.out.c2 hs (a + k) (by omega)
      have r0 := HE.out.c0 hs (b + k) (by omega)
      have r1 := HE.out.c1 hs (b + k) (by omega)
      have r2 := HE.out.c2 hs (b + k) (by omega)
      have f0 := HE.out.fz hs ((a + k) * 3)
      have f1 := HE.out.fz hs ((a + k) * 3 + 1)
      have f2 := HE.out.fz hs ((a + k) * 3 + 2)
      have f3 := HE.out.fz hs ((b + k) * 3)
      have f4 := HE.out.fz hs ((b + k) * 3 + 1)
      have f5 := HE.out.fz hs ((b + k) * 3 + 2)
      have hsw := HE.out.drew (HE.out.swp hs (a + k) (b + k) (by omega) (by omega) (by omega)) 1
      have HX := Lib.hid hsw
      unfold put3 at HX
      generalize (swR node0 L a b k).getD (a + k) node0 = xa at *
      generalize (swR node0 L a b k).getD (b + k) node0 = xb at *
      clear hs hsw HS
      go_wp2
      go_region
      go_wp2
      go_roundw
      case rel => exact ⟨k + 1, by omega, by go_num, HX.out⟩
      case measure => simp [intOf]; omega
    · obtain rfl : k = m := by omega
      have HF : Hid (SQ S (swR node0 L a b k) (.returned (.tuple #[])) wr) := Lib.hid ⟨rfl, hs⟩
      clear hs
      go_wp2
      go_returns
      exact HF.out
end
end Go.Proofs.Ytgnimegdgphlmaa
/-
  slices' stable sort over nodes: insertionSort.
-/
namespace Go.Proofs.Ytgnimegdgphlmaa
open Go.ChangeShapes Go.WideShapes Go.ChangeAt Go.RowKit
set_option linter.unusedVariables false
section
variable {fp : Addr} {key : NodeD → Int} {g n : Nat} {S : List NodeD → World → Prop}
theorem SEnv.cells (E : SEnv fp key g n S) {L : List NodeD} {W : World} (h : S L W) {i : Nat} (hi : i < n) : W.cell? ⟨g, i * 3, none⟩ = some (.bool (L.getD i node0).read) ∧ W.cell? ⟨g, i * 3 + 1, none⟩ = some (.int .i64 (L.getD i node0).mem) ∧ W.cell? ⟨g, i * 3 + 2, none⟩ = some (.int .i64 (L.getD i node0).pos) ∧ W.frozen? ⟨g, i * 3, none⟩ = false ∧ W.frozen? ⟨g, i * 3 + 1, none⟩ = false ∧ W.frozen? ⟨g, i * 3 + 2, none⟩ = false :=
  ⟨E.c0 h i hi, E.c1 h i hi, E.c2 h i hi, E.fz h _, E.fz h _, E.fz h _⟩
def InsQ (key : NodeD → Int) (S : List NodeD → World → Prop) (P X R : List NodeD) (e : Ending) (w' : World) : Prop := e = .returned (.tuple #[]) ∧ ∃ X', X'.length = X.length ∧ S (P ++ X' ++ R) w' ∧ Flt key X X' ∧ Srt key X'
/-- The rounds of the inner loop. -/
def InsI (key : NodeD → Int) (S : List NodeD → World → Prop) (a c : Nat) (fin : List NodeD) (jj : Nat) (wr : World) : Prop := a ≤ jj ∧ jj ≤ a + c ∧ ∃ L, S L wr ∧ insJ node0 key a jj L = fin
/-- The rounds of the outer loop. -/
def InsO (key : NodeD → Int) (S : List NodeD → World → Prop) (P X R : List NodeD) (c : Nat) (wr : World) : Prop := 1 ≤ c ∧ (c ≤ X.length ∨ (c = 1 ∧ X = [])) ∧ ∃ M, M.length = (X.take c).length ∧ Flt key (X.take c) M ∧ Srt key M ∧ S (P ++ M ++ (X.drop c ++ R)) wr
theorem InsO.start {P X R : List NodeD} {W : World} (h : S (P ++ X ++ R) W) : InsO key S P X R 1 W := by
  refine ⟨Nat.le_refl _, ?_, X.take 1, rfl, Flt.refl _, ?_, ?_⟩
  · cases X with
    | nil => exact .inr ⟨rfl, rfl⟩
    | cons x X => exact .inl (by simp)
  · cases X with
    | nil => simp [Srt]
    | cons x X => simp [Srt]
  · rw [← List.append_assoc, List.append_assoc P, List.take_append_drop]; exact h
theorem InsO.done {P X R : List NodeD} {W : World} {c : Nat} (h : InsO key S P X R c W) (hc : ¬ c < X.length) : ∃ X', X'.length = X.length ∧ S (P ++ X' ++ R) W ∧ Flt key X X' ∧ Srt key X' := by
  obtain ⟨h1, h2, M, h3, h4, h5, h6⟩ := h
  rw [List.take_of_length_le (by omega)] at h3 h4
  rw [List.drop_eq_nil_of_le (by omega), List.nil_append] at h6
  exact ⟨M, h3, h6, h4, h5⟩
theorem InsO.inner {P X R : List NodeD} {W : World} {c : Nat} (h : InsO key S P X R c W) (hc : c < X.length) : ∃ fin, InsI key S P.length c fin (P.length + c) W ∧ ∀ w', S fin w' → InsO key S P X R (c + 1) w' := by
  obtain ⟨h1, h2, M, h3, h4, h5, h6⟩ := h
  rw [List.length_take, Nat.min_eq_left (by omega)] at h3
  obtain ⟨x, hx⟩ : ∃ x, x = X[c] := ⟨_, rfl⟩
  rw [List.drop_eq_getElem_cons hc, ← hx, List.cons_append] at h6
  obtain ⟨M', hm, hq⟩ := insJ_at node0 key P x c M (X.drop (c + 1) ++ R) h3 h5
  refine ⟨P ++ M' ++ (X.drop (c + 1) ++ R), ⟨by omega, by omega, _, h6, hm⟩, fun w' hw => ⟨by omega, .inl (by omega), M', ?_, ?_, hq.2, hw⟩⟩
  · have := congrArg List.length hm
    have hl : ∀ (a j : Nat) (L : List NodeD), (insJ node0 key a j L).length = L.length := by
      intro a j
      induction j with
      | zero => intro L; rfl
      | succ j ih =>
        intro L
        unfold insJ
        split
        · rw [ih, swp_length]
        · rfl
    rw [hl] at this
    simp at this
    rw [List.length_take]
    omega
  · rw [List.take_succ_eq_append_getElem hc, ← hx]
    exact (h4.app (Flt.refl [x])).trans hq.1
theorem InsI.stop {a c jj : Nat} {fin : List NodeD} {wr : World} (h : InsI key S a c fin jj wr) (hj : ¬ a < jj) : S fin wr := by
  obtain ⟨h1, h2, L, h3, h4⟩ := h
  cases jj with
  | zero => rw [insJ] at h4; rw [← h4]; exact h3
  | succ j => rw [insJ, if_neg (fun x => hj x.1)] at h4; rw [← h4]; exact h3
set_option maxHeartbeats 4000000 in
theorem insertionSort_ (E : SEnv fp key g n S) {W : World} {P X R : List NodeD} (h : S (P ++ X ++ R) W) (cap : Nat) {a b : Nat} (ha : a = P.length) (hb : b = P.length + X.length) :
    Calls Try.prog 51 #[.slice (some ⟨g, 0, none⟩) n cap, .int .i64 (a : Int), .int .i64 (b : Int), .func (.func 29) #[] #[.pointer (some fp)]] W (InsQ key S P X R) := by
  have hn := E.small
  have hlen := E.len h
  have HE := Lib.hid E
  have HS := Lib.hid (InsO.start (key := key) h)
  have hbn : b ≤ n := by rw [← hlen, hb]; simp
  have hab : a ≤ b := by omega
  have HL := Lib.hid hb
  have HLa := Lib.hid ha
  clear h E hlen hb ha
  go_enter Try.func51, Try.ntmps51
  go_wp2
  go_loopw [8, 9] (fun i _ wr => ∃ c : Nat, i = .int .i64 ((a : Int) + (c : Int)) ∧ InsO key S P X R c wr) (fun i _ _ => b - (intOf i).toNat)
  case atStart => exact ⟨1, by go_num, HS.out⟩
  case round =>
    obtain ⟨c, rfl, ho⟩ := hrel
    clear HS
    obtain ⟨wo, rfl⟩ : ∃ wo : World, wo = wr := ⟨_, rfl⟩
    by_cases hlt : (a : Int) + (c : Int) < (b : Int)
    · obtain ⟨fin, hi, hnx⟩ := ho.inner (by have := HL.out; have := HLa.out; omega)
      have HN := Lib.hid hnx
      have HI := Lib.hid hi
      rw [← HLa.out] at HI
      clear ho hi hnx
      go_wp2
      go_loopw [9] (fun j wr => ∃ jj : Nat, j = .int .i64 (jj : Int) ∧ InsI key S a c fin jj wr) (fun j _ => (intOf j).toNat)
      case atStart => exact ⟨a + c, by go_num, HI.out⟩
      case round =>
        obtain ⟨jj, rfl, hi⟩ := hrel
        clear HI
        by_cases hja : (a : Int) < (jj : Int)
        · obtain ⟨q, rfl⟩ : ∃ q, jj = q + 1 := ⟨jj - 1, by omega⟩
          obtain ⟨h1, h2, Lj, h3, h4⟩ := hi
          have H4 := Lib.hid h4
          have hcell := fun w' (hs' : S Lj w') => (⟨HE.out.c0 hs' (q + 1) (by omega), HE.out.c1 hs' (q + 1) (by omega), HE.out.c2 hs' (q + 1) (by omega), HE.out.c0 hs' q (by omega), HE.out.c1 hs' q (by omega), HE.out.c2 hs' q (by omega)⟩ : w'.cell? ⟨g, (q + 1) * 3, none⟩ = _ ∧ w'.cell? ⟨g, (q + 1) * 3 + 1, none⟩ = _ ∧ w'.cell? ⟨g, (q + 1) * 3 + 2, none⟩ = _ ∧ w'.cell? ⟨g, q * 3, none⟩ = _ ∧ w'.cell? ⟨g, q * 3 + 1, none⟩ = _ ∧ w'.cell? ⟨g, q * 3 + 2, none⟩ = _)
          obtain ⟨f0, f1, f2⟩ : (∀ w', S Lj w' → w'.frozen? ⟨g, (q + 1) * 3, none⟩ = false ∧ w'.frozen? ⟨g, (q + 1) * 3 + 1, none⟩ = false ∧ w'.frozen? ⟨g, (q + 1) * 3 + 2, none⟩ = false) ∧ (∀ w', S Lj w' → w'.frozen? ⟨g, q * 3, none⟩ = false ∧ w'.frozen? ⟨g, q * 3 + 1, none⟩ = false ∧ w'.frozen? ⟨g, q * 3 + 2, none⟩ = false) ∧ True := ⟨fun w' h' => ⟨HE.out.fz h' _, HE.out.fz h' _, HE.out.fz h' _⟩, fun w' h' => ⟨HE.out.fz h' _, HE.out.fz h' _, HE.out.fz h' _⟩, trivial⟩
          have hc := fun k => HE.out.cmp (HE.out.drew h3 k) (q + 1) q (by omega) (by omega)
          have hsw := fun w' (hs' : S Lj w') => HE.out.drew (HE.out.swp hs' (q + 1) q (by omega) (by omega) (by omega)) 1
          unfold ndV at hc
          unfold put3 at hsw
          have h4y := fun (hy : key (Lj.getD (q + 1) node0) < key (Lj.getD q node0)) => (show insJ node0 key a q (swp node0 Lj (q + 1) q) = fin from by rw [← h4, insJ, if_pos ⟨by omega, hy⟩])
          have h4n := fun (hy : ¬ key (Lj.getD (q + 1) node0) < key (Lj.getD q node0)) => (show Lj = fin from by rw [← h4, insJ, if_neg (fun x => hy x.2)])
          have hw1 : IntKind.i64.wrap ((q : Int) + 1 - 1) = (q : Int) := by simp (disch := omega) only [IntWalk.i64_in]; omega
          have hw2 : IntKind.i64.wrap (q : Int) = (q : Int) := by simp (disch := omega) only [IntWalk.i64_in]
          have e1 : ((q : Int) + 1).toNat = q + 1 := by omega
          have hlt1 : (q : Int) + 1 < (n : Int) := by omega
          have hlt2 : (q : Int) < (n : Int) := by omega
          have hlt3 : (0 : Int) ≤ (q : Int) + 1 := by omega
          have hja' : (a : Int) < (q : Int) + 1 := by omega
          generalize Lj.getD (q + 1) node0 = xa at *
          generalize Lj.getD q node0 = xb at *
          obtain ⟨c0, c1, c2, x0, x1, x2⟩ := hcell wr h3
          have HCELL := Lib.hid hcell
          have HC := Lib.hid hc
          have HSW := Lib.hid hsw
          have HY := Lib.hid h4y
          have HNO := Lib.hid h4n
          have F0 := Lib.hid f0
          have F1 := Lib.hid f1
          clear h3 h4 hc hcell f0 f1 f2 hsw h4y h4n
          go_wp2
          go_region_held3 (fun w' => w'.cell? ⟨g, (q + 1) * 3, none⟩ = some (.bool xa.read) ∧ w'.cell? ⟨g, (q + 1) * 3 + 1, none⟩ = some (.int .i64 xa.mem) ∧ w'.cell? ⟨g, (q + 1) * 3 + 2, none⟩ = some (.int .i64 xa.pos) ∧ w'.cell? ⟨g, q * 3, none⟩ = some (.bool xb.read) ∧ w'.cell? ⟨g, q * 3 + 1, none⟩ = some (.int .i64 xb.mem) ∧ w'.cell? ⟨g, q * 3 + 2, none⟩ = some (.int .i64 xb.pos)) (go_keep) (first
            | (go_at_call 29; refine (HC.out 1).mono ?_; rintro e w5 ⟨kk, rfl, hk, hs5⟩; have HK := Lib.hid hk; have HS5 := Lib.hid hs5; obtain ⟨p0, p1, p2, p3, p4, p5⟩ := HCELL.out w5 hs5; clear hk hs5))
          clear c0 c1 c2 x0 x1 x2 HCELL HC
          by_cases hkk : kk < 0
          · have HY2 := Lib.hid (HY.out (HK.out.1 hkk))
            have HR := Lib.hid (HSW.out _ HS5.out)
            obtain ⟨f0, f1, f2⟩ := F0.out _ HS5.out
            obtain ⟨f3, f4, f5⟩ := F1.out _ HS5.out
            go_wp2
            go_region
            go_wp2
            go_roundw
            case rel => exact ⟨q, by go_num, by omega, by omega, _, HR.out, HY2.out⟩
            case measure => simp [intOf]
          · have HN2 := Lib.hid (HNO.out (by have := HK.out; omega))
            have HF := Lib.hid (HN.out w5 (HN2.out ▸ HS5.out))
            go_wp2
            go_roundw
            case rel => exact ⟨c + 1, by go_num, HF.out⟩
            case measure => simp [intOf]; omega
        · have HF := Lib.hid (fun k => HN.out (wr.drewN k) (HE.out.drew (hi.stop (by omega)) k))
          have hd : decide (a < jj) = false := by simpa using hja
          clear hi
          go_wp2
          go_quiet (fail)
          go_wp2
          go_roundw
          case rel => exact ⟨c + 1, by go_num, HF.out _⟩
          case measure => simp [intOf]; omega
    · have HF : Hid (InsQ key S P X R (.returned (.tuple #[])) wo) := Lib.hid ⟨rfl, ho.done (by have := HL.out; have := HLa.out; omega)⟩
      clear ho
      go_wp2
      go_returns
      exact HF.out
end
end Go.Proofs.Ytgnimegdgphlmaa
/-
  slices' stable sort over nodes: rotate.
-/
namespace Go.Proofs.Ytgnimegdgphlmaa
open Go.ChangeShapes Go.WideShapes Go.ChangeAt Go.RowKit
set_option linter.unusedVariables false
section
variable {fp : Addr} {key : NodeD → Int} {g n : Nat} {S : List NodeD → World → Prop}
theorem swapRange_z (E : SEnv fp key g n S) {W : World} {L : List NodeD} (h : S L W) (cap : Nat) {A B C : Int} (a b m : Nat) (hA : A = a) (hB : B = b) (hC : C = m) (hm : 0 < m) (ha : a + m ≤ n) (hb : b + m ≤ n) (hab : a ≠ b) :
    Calls Try.prog 68 #[.slice (some ⟨g, 0, none⟩) n cap, .int .i64 A, .int .i64 B, .int .i64 C, .func (.func 29) #[] #[.pointer (some fp)]] W (SQ S (swR node0 L a b m)) := by
  subst hA hB hC
  exact swapRange_ E h cap a b m hm ha hb hab
/-- The rounds of a rotation. -/
def RotI (S : List NodeD → World → Prop) (m n : Nat) (fin : List NodeD) (i j : Nat) (wr : World) : Prop := 0 < i ∧ 0 < j ∧ i ≤ m ∧ m + j ≤ n ∧ ∃ L f, i + j ≤ f ∧ S L wr ∧ rotG node0 m f L i j = fin
theorem RotI.eq {m i j : Nat} {fin : List NodeD} {wr : World} (h : RotI S m n fin i j wr) (e : i = j) : ∃ L, S L wr ∧ swR node0 L (m - i) m i = fin := by
  obtain ⟨h1, h2, h3, h4, L, f, h5, h6, h7⟩ := h
  refine ⟨L, h6, ?_⟩
  cases f with
  | zero => exact h7
  | succ f => rw [rotG, if_pos e] at h7; exact h7
theorem RotI.gt {m i j : Nat} {fin : List NodeD} {wr : World} (h : RotI S m n fin i j wr) (e : j < i) : ∃ L, S L wr ∧ ∀ w', S (swR node0 L (m - i) m j) w' → RotI S m n fin (i - j) j w' := by
  obtain ⟨h1, h2, h3, h4, L, f, h5, h6, h7⟩ := h
  refine ⟨L, h6, fun w' hw => ?_⟩
  cases f with
  | zero => omega
  | succ f => rw [rotG, if_neg (by omega), if_pos e] at h7; exact ⟨by omega, h2, by omega, h4, _, f, by omega, hw, h7⟩
theorem RotI.lt {m i j : Nat} {fin : List NodeD} {wr : World} (h : RotI S m n fin i j wr) (e : i < j) : ∃ L, S L wr ∧ ∀ w', S (swR node0 L (m - i) (m + j - i) i) w' → RotI S m n fin i (j - i) w' := by
  obtain ⟨h1, h2, h3, h4, L, f, h5, h6, h7⟩ := h
  refine ⟨L, h6, fun w' hw => ?_⟩
  cases f with
  | zero => omega
  | succ f => rw [rotG, if_neg (by omega), if_neg (by omega)] at h7; exact ⟨h1, by omega, h3, by omega, _, f, by omega, hw, h7⟩
set_option maxHeartbeats 4000000 in
theorem rotate_ (E : SEnv fp key g n S) {W : World} {P U V R : List NodeD} (h : S (P ++ U ++ V ++ R) W) (cap : Nat) {A M B : Int} (hA : A = P.length) (hM : M = A + U.length) (hB : B = M + V.length) (hU : 0 < U.length) (hV : 0 < V.length) :
    Calls Try.prog 64 #[.slice (some ⟨g, 0, none⟩) n cap, .int .i64 A, .int .i64 M, .int .i64 B, .func (.func 29) #[] #[.pointer (some fp)]] W (SQ S (P ++ V ++ U ++ R)) := by
  have hn := E.small
  have hlen := E.len h
  simp only [List.length_append] at hlen
  obtain ⟨m, rfl⟩ : ∃ m : Nat, M = m := ⟨P.length + U.length, by omega⟩
  have hst : RotI S m n (P ++ V ++ U ++ R) U.length V.length W := ⟨hU, hV, by omega, by omega, _, U.length + V.length, Nat.le_refl _, h, rotG_at node0 m _ P U V R (by omega) hU hV (Nat.le_refl _)⟩
  obtain ⟨fin, hfin⟩ : ∃ f, f = P ++ V ++ U ++ R := ⟨_, rfl⟩
  rw [← hfin] at hst ⊢
  obtain ⟨u, hu⟩ : ∃ u, u = U.length := ⟨_, rfl⟩
  obtain ⟨v, hv⟩ : ∃ v, v = V.length := ⟨_, rfl⟩
  rw [← hu] at hst hlen hM hU
  rw [← hv] at hst hlen hB hV
  have hA0 : 0 ≤ A := by omega
  have e1 : (m : Int) - A = u := by omega
  have e2 : B - (m : Int) = v := by omega
  have hBn : B ≤ n := by omega
  have HE := Lib.hid E
  have HS := Lib.hid hst
  have E1 := Lib.hid e1
  have E2 := Lib.hid e2
  have hmB : (m : Int) ≤ B := by omega
  have hAm : A ≤ (m : Int) := by omega
  clear h E hlen hst hfin hu hv hA hM hB e1 e2
  go_enter Try.func64, Try.ntmps64
  go_wp2
  rw [E1.out, E2.out]
  go_loopw [10, 11] (fun i j wr => ∃ a b : Nat, i = .int .i64 (a : Int) ∧ j = .int .i64 (b : Int) ∧ RotI S m n fin a b wr) (fun i j _ => (intOf i).toNat + (intOf j).toNat)
  case atStart => exact ⟨u, v, rfl, rfl, HS.out⟩
  case round =>
    obtain ⟨a, b, rfl, rfl, hr⟩ := hrel
    have hr1 := hr.1
    have hr2 := hr.2.1
    have hr3 := hr.2.2.1
    have hr4 := hr.2.2.2.1
    clear HS
    rcases Nat.lt_trichotomy a b with hab | hab | hab
    · obtain ⟨L, hs, hnx⟩ := hr.lt hab
      have HN := Lib.hid hnx
      have HSW := Lib.hid (fun (Z1 Z2 Z3 : Int) (z1 : Z1 = ((m - a : Nat) : Int)) (z2 : Z2 = ((m + b - a : Nat) : Int)) (z3 : Z3 = (a : Int)) => swapRange_z HE.out hs cap (m - a) (m + b - a) a z1 z2 z3 (by omega) (by omega) (by omega) (by omega))
      have hne : ((a : Int) != (b : Int)) = true := by rw [bne_iff_ne]; omega
      have hgt : decide (b < a) = false := by simpa using Nat.le_of_lt hab
      clear hr hs hnx
      go_wp2_with (go_at_call 68; refine (HSW.out _ _ _ (by omega) (by omega) rfl).mono ?_; rintro e w5 ⟨rfl, hs5⟩; have HS5 := Lib.hid (HN.out w5 hs5); clear hs5)
      go_roundw
      case rel => exact ⟨a, b - a, rfl, by go_num, HS5.out⟩
      case measure => simp [intOf]; omega
    · obtain ⟨L, hs, hfin⟩ := hr.eq hab
      subst hab
      have HSW := Lib.hid (fun (Z1 Z2 Z3 : Int) (z1 : Z1 = ((m - a : Nat) : Int)) (z2 : Z2 = ((m : Nat) : Int)) (z3 : Z3 = (a : Int)) => swapRange_z HE.out hs cap (m - a) m a z1 z2 z3 (by omega) (by omega) (by omega) (by omega))
      rw [hfin] at HSW
      have hne : ((a : Int) != (a : Int)) = false := by simp
      clear hr hs hfin
      go_wp2_with (go_at_call 68; refine (HSW.out _ _ _ (by omega) rfl rfl).mono ?_; rintro e w5 ⟨rfl, hs5⟩; have HS5 := Lib.hid hs5; clear hs5)
      go_returns
      exact ⟨rfl, HS5.out⟩
    · obtain ⟨L, hs, hnx⟩ := hr.gt hab
      have HN := Lib.hid hnx
      have HSW := Lib.hid (fun (Z1 Z2 Z3 : Int) (z1 : Z1 = ((m - a : Nat) : Int)) (z2 : Z2 = ((m : Nat) : Int)) (z3 : Z3 = (b : Int)) => swapRange_z HE.out hs cap (m - a) m b z1 z2 z3 (by omega) (by omega) (by omega) (by omega))
      have hne : ((a : Int) != (b : Int)) = true := by rw [bne_iff_ne]; omega
      have hgt : decide (b < a) = true := by simpa using hab
      clear hr hs hnx
      go_wp2_with (go_at_call 68; refine (HSW.out _ _ _ (by omega) rfl rfl).mono ?_; rintro e w5 ⟨rfl, hs5⟩; have HS5 := Lib.hid (HN.out w5 hs5); clear hs5)
      go_roundw
      case rel => exact ⟨a - b, b, by go_num, rfl, HS5.out⟩
      case measure => simp [intOf]; omega
end
end Go.Proofs.Ytgnimegdgphlmaa
/-
  slices' stable sort over nodes: symMerge, one element ahead of a block.
-/
namespace Go.Proofs.Ytgnimegdgphlmaa
open Go.ChangeShapes Go.WideShapes Go.ChangeAt Go.RowKit
set_option linter.unusedVariables false
section
variable {fp : Addr} {key : NodeD → Int} {g n : Nat} {S : List NodeD → World → Prop}
theorem u64_in (z : Int) (h0 : 0 ≤ z) (h1 : z ≤ 4000000) : IntKind.u64.wrap z = z := by
  have e : (2 : Int) ^ IntKind.u64.bits = 18446744073709551616 := rfl
  have e2 : IntKind.u64.signed = false := rfl
  simp only [IntKind.wrap, e, e2, Bool.false_and, Bool.false_eq_true, if_false]
  omega
def SymQ (key : NodeD → Int) (S : List NodeD → World → Prop) (P U V R : List NodeD) (e : Ending) (w' : World) : Prop := e = .returned (.tuple #[]) ∧ ∃ M, M.length = U.length + V.length ∧ S (P ++ M ++ R) w' ∧ Mrg key U V M
/-- One element ahead of a block: where it belongs. -/
def OneL (key : NodeD → Int) (S : List NodeD → World → Prop) (x : NodeD) (V L : List NodeD) (ii jj : Nat) (wr : World) : Prop :=
  ii ≤ jj ∧ jj ≤ V.length ∧ (ii = 0 ∨ key (V.getD (ii - 1) node0) < key x) ∧ (jj = V.length ∨ key x ≤ key (V.getD jj node0)) ∧ S L wr
set_option maxHeartbeats 16000000 in
set_option maxRecDepth 100000 in
theorem symL_ (E : SEnv fp key g n S) {W : World} {P V R : List NodeD} {x : NodeD} (h : S (P ++ [x] ++ V ++ R) W) (cap : Nat) {A M B : Int} (hA : A = P.length) (hM : M = A + 1) (hB : B = M + V.length) (hV : 0 < V.length) (hs : Srt key V) :
    Calls Try.prog 52 #[.slice (some ⟨g, 0, none⟩) n cap, .int .i64 A, .int .i64 M, .int .i64 B, .func (.func 29) #[] #[.pointer (some fp)]] W (SymQ key S P [x] V R) := by
  have hn := E.small
  have hlen := E.len h
  simp only [List.length_append, List.length_singleton] at hlen
  obtain ⟨L, hL⟩ : ∃ L, L = P ++ [x] ++ V ++ R := ⟨_, rfl⟩
  have hA0 : 0 ≤ A := by omega
  have hBn : B ≤ n := by omega
  have hst : OneL key S x V L 0 V.length W := ⟨Nat.zero_le _, Nat.le_refl _, .inl rfl, .inl rfl, hL ▸ h⟩
  have ga : L.getD P.length node0 = x := by rw [hL]; simp [List.getD]
  have gv : ∀ i, i < V.length → L.getD (P.length + 1 + i) node0 = V.getD i node0 := fun i hi => by
    rw [hL]
    simp only [List.getD]
    rw [List.getElem?_append_left (by simp only [List.length_append, List.length_singleton]; omega), List.getElem?_append_right (by simp)]
    congr 2
    simp
  obtain ⟨v, hv⟩ : ∃ v, v = V.length := ⟨_, rfl⟩
  obtain ⟨p, hp⟩ : ∃ p, p = P.length := ⟨_, rfl⟩
  rw [← hv] at hst gv hB hV
  rw [← hp] at ga gv hA
  have HE := Lib.hid E
  have HS := Lib.hid hst
  have HA := Lib.hid hA
  have HM := Lib.hid hM
  have HB := Lib.hid hB
  have HL := Lib.hid hL
  have HV := Lib.hid hv
  have HP := Lib.hid hp
  have GV := Lib.hid gv
  have GA := Lib.hid ga
  have e1 : M - A = 1 := by omega
  have hM0 : 0 < M := by omega
  have hMv : M + (v : Int) ≤ n := by omega
  have hMB : M ≤ B := by omega
  have hMA : M = A + 1 := hM
  clear h E hlen hst hv hp hL gv ga
  go_enter Try.func52, Try.ntmps52
  have HMA := Lib.hid hMA
  have hMA1 : M ≤ A + 1 := by omega
  have hMA2 : A + 1 ≤ M := by omega
  have hAp1 : A ≤ (p : Int) := by omega
  have hAp2 : (p : Int) ≤ A := by omega
  have hlenn : p + 1 + v ≤ n := by omega
  clear hMA hM hB hA
  go_wp2
  clear e1
  go_loopw [10, 11, 12] (fun i j _ wr => ∃ a b : Nat, i = .int .i64 (M + (a : Int)) ∧ j = .int .i64 (M + (b : Int)) ∧ OneL key S x V L a b wr) (fun i j _ _ => (intOf j).toNat - (intOf i).toNat)
  case atStart => exact ⟨0, v, by go_num, by rw [HB.out], HS.out⟩
  case round =>
    obtain ⟨a, b, rfl, rfl, hr⟩ := hrel
    have hr1 := hr.1
    have hr2 := hr.2.1
    clear HS
    rw [← HV.out] at hr2
    by_cases hab : M + (a : Int) < M + (b : Int)
    · obtain ⟨c, hc⟩ : ∃ c : Nat, c = (a + b) / 2 := ⟨_, rfl⟩
      have hc1 : a ≤ c := by omega
      have hc2 : c < b := by omega
      have hw1 : IntKind.u64.wrap (M + (a : Int) + (M + (b : Int))) = M + (a : Int) + (M + (b : Int)) := u64_in _ (by omega) (by omega)
      have hw2 : (M + (a : Int) + (M + (b : Int))) / 2 = M + (c : Int) := by omega
      obtain ⟨y, hy⟩ : ∃ y, y = V.getD c node0 := ⟨_, rfl⟩
      have ec : (M + (c : Int)).toNat = p + 1 + c := by omega
      have ea : A.toNat = p := by omega
      have gc : L.getD (p + 1 + c) node0 = y := by rw [GV.out c (by omega), hy]
      have hs0 := hr.2.2.2.2
      have hcmp := HE.out.cmp (HE.out.drew hs0 1) (p + 1 + c) p (by omega) (by omega)
      have hcell := fun w' (hs' : S L w') => (⟨HE.out.c0 hs' (p + 1 + c) (by omega), HE.out.c1 hs' (p + 1 + c) (by omega), HE.out.c2 hs' (p + 1 + c) (by omega), HE.out.c0 hs' p (by omega), HE.out.c1 hs' p (by omega), HE.out.c2 hs' p (by omega)⟩ : w'.cell? ⟨g, (p + 1 + c) * 3, none⟩ = _ ∧ w'.cell? ⟨g, (p + 1 + c) * 3 + 1, none⟩ = _ ∧ w'.cell? ⟨g, (p + 1 + c) * 3 + 2, none⟩ = _ ∧ w'.cell? ⟨g, p * 3, none⟩ = _ ∧ w'.cell? ⟨g, p * 3 + 1, none⟩ = _ ∧ w'.cell? ⟨g, p * 3 + 2, none⟩ = _)
      rw [gc, GA.out] at hcmp hcell
      have hnext : ∀ w', S L w' → (key y < key x → OneL key S x V L (c + 1) b w') ∧ (¬ key y < key x → OneL key S x V L a c w') := fun w' hw' => ⟨fun hk => ⟨by omega, hr.2.1, .inr (by rw [Nat.add_sub_cancel, ← hy]; exact hk), hr.2.2.2.1, hw'⟩, fun hk => ⟨hc1, by have := HV.out; omega, hr.2.2.1, .inr (by rw [← hy]; omega), hw'⟩⟩
      obtain ⟨c0, c1, c2, x0, x1, x2⟩ := hcell wr hs0
      unfold ndV at hcmp
      have HCELL := Lib.hid hcell
      have HC := Lib.hid hcmp
      have HN := Lib.hid hnext
      have hcn : M + (c : Int) < n := by omega
      have hc0 : 0 ≤ M + (c : Int) := by omega
      have han : A < n := by omega
      have EC := Lib.hid hc
      clear hr hcmp hcell hnext hs0 hy gc hc
      go_wp2
      go_region_held3 (fun w' => w'.cell? ⟨g, (p + 1 + c) * 3, none⟩ = some (.bool y.read) ∧ w'.cell? ⟨g, (p + 1 + c) * 3 + 1, none⟩ = some (.int .i64 y.mem) ∧ w'.cell? ⟨g, (p + 1 + c) * 3 + 2, none⟩ = some (.int .i64 y.pos) ∧ w'.cell? ⟨g, p * 3, none⟩ = some (.bool x.read) ∧ w'.cell? ⟨g, p * 3 + 1, none⟩ = some (.int .i64 x.mem) ∧ w'.cell? ⟨g, p * 3 + 2, none⟩ = some (.int .i64 x.pos)) (go_keep) (first
            | (go_at_call 29; refine HC.out.mono ?_; rintro e w5 ⟨kk, rfl, hk, hs5⟩; have HK := Lib.hid hk; have HS5 := Lib.hid hs5; obtain ⟨p0, p1, p2, p3, p4, p5⟩ := HCELL.out w5 hs5; clear hk hs5))
      clear p0 p1 p2 p3 p4 p5
      by_cases hkk : kk < 0
      · have HF := Lib.hid ((HN.out w5 HS5.out).1 (HK.out.1 hkk))
        go_wp2
        go_roundw
        case rel => exact ⟨c + 1, b, by go_num, rfl, HF.out⟩
        case measure => simp [intOf]; omega
      · have HF := Lib.hid ((HN.out w5 HS5.out).2 (by have := HK.out; omega))
        go_wp2
        go_roundw
        case rel => exact ⟨a, c, rfl, rfl, HF.out⟩
        case measure => simp [intOf]; omega
    · obtain rfl : b = a := by omega
      obtain ⟨h1, h2⟩ := one_left_ok node0 hs (key x) b hr.2.1 hr.2.2.1 hr.2.2.2.1
      have hfin : ∀ w', S (P ++ V.take b ++ x :: (V.drop b ++ R)) w' → SymQ key S P [x] V R (.returned (.tuple #[])) w' := fun w' hw' => ⟨rfl, V.take b ++ x :: V.drop b, by simp; omega, by simpa using hw', by
        have := Mrg.one_left (key := key) (v1 := V.take b) (v2 := V.drop b) (by rw [List.take_append_drop]; exact hs) h1 h2
        rwa [List.take_append_drop] at this⟩
      have hmv : mvR node0 L p b = P ++ V.take b ++ x :: (V.drop b ++ R) := by
        have := mvR_at node0 P V R x b (by rw [← HV.out]; exact hr2)
        rw [← HP.out] at this
        rw [HL.out, ← this]
        simp
      rw [← hmv] at hfin
      have HF := Lib.hid hfin
      have HS0 : Hid (S (mvR node0 L p 0) wr) := Lib.hid hr.2.2.2.2
      clear hr hmv h1 h2 hfin
      go_wp2
      go_loopw [13] (fun k wr => ∃ q : Nat, q ≤ b ∧ k = .int .i64 (A + (q : Int)) ∧ S (mvR node0 L p q) wr) (fun k _ => (M + b - intOf k).toNat)
      case atStart => exact ⟨0, Nat.zero_le _, by go_num, HS0.out⟩
      case round =>
        obtain ⟨q, hq, rfl, hsq⟩ := hrel
        clear HS0
        by_cases hqb : A + (q : Int) < M + (b : Int) - 1
        · have ec : (A + (q : Int)).toNat = p + q := by omega
          have ed : (A + (q : Int) + 1).toNat = p + q + 1 := by omega
          have hw1 : IntKind.i64.wrap (A + (q : Int) + 1) = A + (q : Int) + 1 := by simp (disch := omega) only [IntWalk.i64_in]
          have hw2 : IntKind.i64.wrap (A + (q : Int)) = A + (q : Int) := by simp (disch := omega) only [IntWalk.i64_in]
          have hi1 : A + (q : Int) < n := by omega
          have hi2 : A + (q : Int) + 1 < n := by omega
          have hi3 : 0 ≤ A + (q : Int) := by omega
          have hi4 : 0 ≤ A + (q : Int) + 1 := by omega
          have q0 := HE.out.c0 hsq (p + q) (by omega)
          have q1 := HE.out.c1 hsq (p + q) (by omega)
          have q2 := HE.out.c2 hsq (p + q) (by omega)
          have r0 := HE.out.c0 hsq (p + q + 1) (by omega)
          have r1 := HE.out.c1 hsq (p + q + 1) (by omega)
          have r2 := HE.out.c2 hsq (p + q + 1) (by omega)
          have f0 := HE.out.fz hsq ((p + q) * 3)
          have f1 := HE.out.fz hsq ((p + q) * 3 + 1)
          have f2 := HE.out.fz hsq ((p + q) * 3 + 2)
          have f3 := HE.out.fz hsq ((p + q + 1) * 3)
          have f4 := HE.out.fz hsq ((p + q + 1) * 3 + 1)
          have f5 := HE.out.fz hsq ((p + q + 1) * 3 + 2)
          have hsw := HE.out.drew (HE.out.swp hsq (p + q) (p + q + 1) (by omega) (by omega) (by omega)) 1
          have HX := Lib.hid hsw
          unfold put3 at HX
          generalize (mvR node0 L p q).getD (p + q) node0 = xa at *
          generalize (mvR node0 L p q).getD (p + q + 1) node0 = xb at *
          clear hsw hsq
          go_wp2
          go_region
          go_wp2
          go_roundw
          case rel => exact ⟨q + 1, by omega, by go_num, HX.out⟩
          case measure => simp [intOf]; omega
        · obtain rfl : q = b := by omega
          have HG := Lib.hid (HF.out wr hsq)
          clear hsq
          go_wp2
          go_returns
          exact HG.out
end
end Go.Proofs.Ytgnimegdgphlmaa
/-
  slices' stable sort over nodes: symMerge, one element behind a block.
-/
namespace Go.Proofs.Ytgnimegdgphlmaa
open Go.ChangeShapes Go.WideShapes Go.ChangeAt Go.RowKit
set_option linter.unusedVariables false
section
variable {fp : Addr} {key : NodeD → Int} {g n : Nat} {S : List NodeD → World → Prop}
/-- One element behind a block: where it belongs. -/
def OneR (key : NodeD → Int) (S : List NodeD → World → Prop) (y : NodeD) (U L : List NodeD) (ii jj : Nat) (wr : World) : Prop :=
  ii ≤ jj ∧ jj ≤ U.length ∧ (ii = 0 ∨ key (U.getD (ii - 1) node0) ≤ key y) ∧ (jj = U.length ∨ key y < key (U.getD jj node0)) ∧ S L wr
set_option maxHeartbeats 16000000 in
set_option maxRecDepth 100000 in
theorem symR_ (E : SEnv fp key g n S) {W : World} {P U R : List NodeD} {y : NodeD} (h : S (P ++ U ++ [y] ++ R) W) (cap : Nat) {A M B : Int} (hA : A = P.length) (hM : M = A + U.length) (hB : B = M + 1) (hU : 1 < U.length) (hs : Srt key U) :
    Calls Try.prog 52 #[.slice (some ⟨g, 0, none⟩) n cap, .int .i64 A, .int .i64 M, .int .i64 B, .func (.func 29) #[] #[.pointer (some fp)]] W (SymQ key S P U [y] R) := by
  have hn := E.small
  have hlen := E.len h
  simp only [List.length_append, List.length_singleton] at hlen
  obtain ⟨L, hL⟩ : ∃ L, L = P ++ U ++ [y] ++ R := ⟨_, rfl⟩
  have hA0 : 0 ≤ A := by omega
  have hst : OneR key S y U L 0 U.length W := ⟨Nat.zero_le _, Nat.le_refl _, .inl rfl, .inl rfl, hL ▸ h⟩
  have ga : L.getD (P.length + U.length) node0 = y := by
    rw [hL]
    simp only [List.getD]
    rw [List.getElem?_append_left (by simp), List.getElem?_append_right (by simp)]
    simp
  have gv : ∀ i, i < U.length → L.getD (P.length + i) node0 = U.getD i node0 := fun i hi => by
    rw [hL]
    simp only [List.getD]
    rw [List.getElem?_append_left (by simp only [List.length_append, List.length_singleton]; omega), List.getElem?_append_left (by simp only [List.length_append]; omega), List.getElem?_append_right (by simp)]
    congr 2
    simp
  obtain ⟨v, hv⟩ : ∃ v, v = U.length := ⟨_, rfl⟩
  obtain ⟨p, hp⟩ : ∃ p, p = P.length := ⟨_, rfl⟩
  rw [← hv] at hst gv ga hM hU
  rw [← hp] at ga gv hA
  have HE := Lib.hid E
  have HS := Lib.hid hst
  have HM := Lib.hid hM
  have HL := Lib.hid hL
  have HV := Lib.hid hv
  have HP := Lib.hid hp
  have GV := Lib.hid gv
  have GA := Lib.hid ga
  have e1 : ((M - A) == 1) = false := by rw [beq_eq_false_iff_ne]; omega
  have e2 : B - M = 1 := by omega
  have hM0 : 0 < M := by omega
  have hMn : M < n := by omega
  have hMB : M ≤ B := by omega
  have hAM : A ≤ M := by omega
  have hBn : B ≤ n := by omega
  have hMA1 : M ≤ A + v := by omega
  have hMA2 : A + v ≤ M := by omega
  have hAp1 : A ≤ (p : Int) := by omega
  have hAp2 : (p : Int) ≤ A := by omega
  have hlenn : p + v + 1 ≤ n := by omega
  have hab0 : A < M := by omega
  clear h E hlen hst hv hp hL gv ga hM hB hA
  go_enter Try.func52, Try.ntmps52
  go_wp2
  clear e1 e2
  go_loopw [14, 15, 16] (fun i j _ wr => ∃ a b : Nat, i = .int .i64 (A + (a : Int)) ∧ j = .int .i64 (A + (b : Int)) ∧ OneR key S y U L a b wr) (fun i j _ _ => (intOf j).toNat - (intOf i).toNat)
  case atStart => exact ⟨0, v, by go_num, by rw [HM.out], HS.out⟩
  case round =>
    obtain ⟨a, b, rfl, rfl, hr⟩ := hrel
    have hr1 := hr.1
    have hr2 := hr.2.1
    clear HS
    rw [← HV.out] at hr2
    by_cases hab : A + (a : Int) < A + (b : Int)
    · obtain ⟨c, hc⟩ : ∃ c : Nat, c = (a + b) / 2 := ⟨_, rfl⟩
      have hc1 : a ≤ c := by omega
      have hc2 : c < b := by omega
      have hw1 : IntKind.u64.wrap (A + (a : Int) + (A + (b : Int))) = A + (a : Int) + (A + (b : Int)) := u64_in _ (by omega) (by omega)
      have hw2 : (A + (a : Int) + (A + (b : Int))) / 2 = A + (c : Int) := by omega
      obtain ⟨x, hx⟩ : ∃ x, x = U.getD c node0 := ⟨_, rfl⟩
      have ec : (A + (c : Int)).toNat = p + c := by omega
      have em : M.toNat = p + v := by omega
      have gc : L.getD (p + c) node0 = x := by rw [GV.out c (by omega), hx]
      have hs0 := hr.2.2.2.2
      have hcmp := HE.out.cmp (HE.out.drew hs0 1) (p + v) (p + c) (by omega) (by omega)
      have hcell := fun w' (hs' : S L w') => (⟨HE.out.c0 hs' (p + v) (by omega), HE.out.c1 hs' (p + v) (by omega), HE.out.c2 hs' (p + v) (by omega), HE.out.c0 hs' (p + c) (by omega), HE.out.c1 hs' (p + c) (by omega), HE.out.c2 hs' (p + c) (by omega)⟩ : w'.cell? ⟨g, (p + v) * 3, none⟩ = _ ∧ w'.cell? ⟨g, (p + v) * 3 + 1, none⟩ = _ ∧ w'.cell? ⟨g, (p + v) * 3 + 2, none⟩ = _ ∧ w'.cell? ⟨g, (p + c) * 3, none⟩ = _ ∧ w'.cell? ⟨g, (p + c) * 3 + 1, none⟩ = _ ∧ w'.cell? ⟨g, (p + c) * 3 + 2, none⟩ = _)
      rw [gc, GA.out] at hcmp hcell
      have hnext : ∀ w', S L w' → (¬ key y < key x → OneR key S y U L (c + 1) b w') ∧ (key y < key x → OneR key S y U L a c w') := fun w' hw' => ⟨fun hk => ⟨by omega, hr.2.1, .inr (by rw [Nat.add_sub_cancel, ← hx]; omega), hr.2.2.2.1, hw'⟩, fun hk => ⟨hc1, by have := HV.out; omega, hr.2.2.1, .inr (by rw [← hx]; exact hk), hw'⟩⟩
      obtain ⟨c0, c1, c2, x0, x1, x2⟩ := hcell wr hs0
      unfold ndV at hcmp
      have HCELL := Lib.hid hcell
      have HC := Lib.hid hcmp
      have HN := Lib.hid hnext
      have hcn : A + (c : Int) < n := by omega
      have hc0 : 0 ≤ A + (c : Int) := by omega
      have hm0 : 0 ≤ M := by omega
      have EC := Lib.hid hc
      clear hr hcmp hcell hnext hs0 hx gc hc
      go_wp2
      go_region_held3 (fun w' => w'.cell? ⟨g, (p + v) * 3, none⟩ = some (.bool y.read) ∧ w'.cell? ⟨g, (p + v) * 3 + 1, none⟩ = some (.int .i64 y.mem) ∧ w'.cell? ⟨g, (p + v) * 3 + 2, none⟩ = some (.int .i64 y.pos) ∧ w'.cell? ⟨g, (p + c) * 3, none⟩ = some (.bool x.read) ∧ w'.cell? ⟨g, (p + c) * 3 + 1, none⟩ = some (.int .i64 x.mem) ∧ w'.cell? ⟨g, (p + c) * 3 + 2, none⟩ = some (.int .i64 x.pos)) (go_keep) (first
            | (go_at_call 29; refine HC.out.mono ?_; rintro e w5 ⟨kk, rfl, hk, hs5⟩; have HK := Lib.hid hk; have HS5 := Lib.hid hs5; obtain ⟨p0, p1, p2, p3, p4, p5⟩ := HCELL.out w5 hs5; clear hk hs5))
      clear p0 p1 p2 p3 p4 p5
      have HFa : Hid (¬ kk < 0 → OneR key S y U L (c + 1) b w5) := Lib.hid (fun hkk => (HN.out w5 HS5.out).1 (by have := HK.out; omega))
      have HFb : Hid (kk < 0 → OneR key S y U L a c w5) := Lib.hid (fun hkk => (HN.out w5 HS5.out).2 (HK.out.1 hkk))
      go_wp2
      · have hq : (!decide (kk < 0)) = true := by assumption
        have HF := Lib.hid (HFa.out (by simpa using hq))
        go_roundw
        case rel => exact ⟨c + 1, b, by go_num, rfl, HF.out⟩
        case measure => simp [intOf]; omega
      · have hq : (!decide (kk < 0)) = false := by assumption
        have HF := Lib.hid (HFb.out (by simpa using hq))
        go_roundw
        case rel => exact ⟨a, c, rfl, rfl, HF.out⟩
        case measure => simp [intOf]; omega
    · obtain rfl : b = a := by omega
      obtain ⟨h1, h2⟩ := one_right_ok node0 hs (key y) b hr.2.1 hr.2.2.1 hr.2.2.2.1
      have hfin : ∀ w', S (P ++ U.take b ++ y :: (U.drop b ++ R)) w' → SymQ key S P U [y] R (.returned (.tuple #[])) w' := fun w' hw' => ⟨rfl, U.take b ++ y :: U.drop b, by simp; omega, by simpa using hw', by
        have := Mrg.one_right (key := key) (u1 := U.take b) (u2 := U.drop b) (by rw [List.take_append_drop]; exact hs) h1 h2
        rwa [List.take_append_drop] at this⟩
      obtain ⟨m, hm⟩ : ∃ m, m = p + v := ⟨_, rfl⟩
      have hmv : mvL node0 L m (v - b) = P ++ U.take b ++ y :: (U.drop b ++ R) := by
        have := mvL_at node0 P U R y (v - b) (by rw [← HV.out]; omega)
        rw [← HP.out, ← HV.out, ← hm, show v - (v - b) = b by omega] at this
        rw [HL.out, ← this]
        simp
      rw [← hmv] at hfin
      have HF := Lib.hid hfin
      have HS0 : Hid (S (mvL node0 L m 0) wr) := Lib.hid hr.2.2.2.2
      have hm1 : (m : Int) ≤ M := by omega
      have hm2 : M ≤ (m : Int) := by omega
      have hm3 : m + 1 ≤ n := by omega
      clear hr hmv h1 h2 hfin hm
      go_wp2
      go_loopw [17] (fun k wr => ∃ q : Nat, q ≤ v - b ∧ k = .int .i64 (M - (q : Int)) ∧ S (mvL node0 L m q) wr) (fun k _ => (intOf k).toNat)
      case atStart => exact ⟨0, Nat.zero_le _, by go_num, HS0.out⟩
      case round =>
        obtain ⟨q, hq, rfl, hsq⟩ := hrel
        clear HS0
        by_cases hqb : A + (b : Int) < M - (q : Int)
        · have ec : (M - (q : Int)).toNat = m - q := by omega
          have ed : (M - (q : Int) - 1).toNat = m - q - 1 := by omega
          have hw1 : IntKind.i64.wrap (M - (q : Int) - 1) = M - (q : Int) - 1 := by simp (disch := omega) only [IntWalk.i64_in]
          have hw2 : IntKind.i64.wrap (M - (q : Int)) = M - (q : Int) := by simp (disch := omega) only [IntWalk.i64_in]
          have hi1 : M - (q : Int) < n := by omega
          have hi2 : M - (q : Int) - 1 < n := by omega
          have hi3 : 0 ≤ M - (q : Int) := by omega
          have hi4 : 0 ≤ M - (q : Int) - 1 := by omega
          have q0 := HE.out.c0 hsq (m - q) (by omega)
          have q1 := HE.out.c1 hsq (m - q) (by omega)
          have q2 := HE.out.c2 hsq (m - q) (by omega)
          have r0 := HE.out.c0 hsq (m - q - 1) (by omega)
          have r1 := HE.out.c1 hsq (m - q - 1) (by omega)
          have r2 := HE.out.c2 hsq (m - q - 1) (by omega)
          have f0 := HE.out.fz hsq ((m - q) * 3)
          have f1 := HE.out.fz hsq ((m - q) * 3 + 1)
          have f2 := HE.out.fz hsq ((m - q) * 3 + 2)
          have f3 := HE.out.fz hsq ((m - q - 1) * 3)
          have f4 := HE.out.fz hsq ((m - q - 1) * 3 + 1)
          have f5 := HE.out.fz hsq ((m - q - 1) * 3 + 2)
          have hsw := HE.out.drew (HE.out.swp hsq (m - q) (m - q - 1) (by omega) (by omega) (by omega)) 1
          have HX := Lib.hid hsw
          unfold put3 at HX
          generalize (mvL node0 L m q).getD (m - q) node0 = xa at *
          generalize (mvL node0 L m q).getD (m - q - 1) node0 = xb at *
          clear hsw hsq
          go_wp2
          go_region
          go_wp2
          go_roundw
          case rel => exact ⟨q + 1, by omega, by go_num, HX.out⟩
          case measure => simp [intOf]; omega
        · obtain rfl : q = v - b := by omega
          have HG := Lib.hid (HF.out wr hsq)
          clear hsq
          go_wp2
          go_returns
          exact HG.out
end
end Go.Proofs.Ytgnimegdgphlmaa
