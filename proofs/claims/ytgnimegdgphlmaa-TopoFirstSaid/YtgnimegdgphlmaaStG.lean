/-
  slices' stable sort over nodes: the whole.
-/
import Derived.Test.YtgnimegdgphlmaaStF
import Derived.Test.YtgnimegdgphlmaaHeld
import Derived.Test.YtgnimegdgphlmaaTopW
import Derived.Test.YtgnimegdgphlmaaSupM
import Derived.Test.YtgnimegdgphlmaaTopC
namespace Go.Proofs.Ytgnimegdgphlmaa
open Go.ChangeShapes Go.WideShapes Go.ChangeAt Go.RowKit
set_option linter.unusedVariables false
section
variable {fp : Addr} {key : NodeD → Int} {g n : Nat} {S : List NodeD → World → Prop}
theorem sym_all (E : SEnv fp key g n S) (cap : Nat) : ∀ N, SymC fp key g n S cap N
  | 0 => fun W P U V R A M B hN h hA hM hB hU hV hsu hsv => absurd hN (by omega)
  | N + 1 => fun W P U V R A M B hN h hA hM hB hU hV hsu hsv => by
    by_cases h1 : U.length = 1
    · obtain ⟨x, rfl⟩ := List.length_eq_one_iff.1 h1
      exact symL_ E h cap hA (by rw [hM]; simp) hB hV hsv
    · by_cases h2 : V.length = 1
      · obtain ⟨y, rfl⟩ := List.length_eq_one_iff.1 h2
        exact symR_ E h cap hA hM (by rw [hB]; simp) (by omega) hsu
      · exact symM_ E cap N (sym_all E cap N) h hA hM hB (by omega) (by omega) hN hsu hsv
/-- What the first rounds leave: blocks of s, sorted each. -/
def StB1 (key : NodeD → Int) (S : List NodeD → World → Prop) (L0 : List NodeD) (s q : Nat) (wr : World) : Prop :=
  ∃ D R, D.length = q * s ∧ S (D ++ R) wr ∧ BS key D s ∧ Flt key L0 (D ++ R)
/-- What the rounds of one width leave: blocks of twice s done, the others of s. -/
def StB2 (key : NodeD → Int) (S : List NodeD → World → Prop) (L0 : List NodeD) (s q : Nat) (wr : World) : Prop :=
  ∃ D R, D.length = q * (2 * s) ∧ S (D ++ R) wr ∧ BS key D (2 * s) ∧ BS key R s ∧ Flt key L0 (D ++ R)
def StS (key : NodeD → Int) (S : List NodeD → World → Prop) (L0 : List NodeD) (s : Nat) (wr : World) : Prop := ∃ L, S L wr ∧ BS key L s ∧ Flt key L0 L
def StQ (key : NodeD → Int) (S : List NodeD → World → Prop) (L0 : List NodeD) (e : Ending) (w' : World) : Prop := e = .returned (.tuple #[]) ∧ ∃ L, S L w' ∧ Srt key L ∧ Flt key L0 L
theorem StS.done {L0 : List NodeD} {s : Nat} {wr : World} (h : StS key S L0 s wr) (E : SEnv fp key g n S) (hs : n ≤ s) : StQ key S L0 (.returned (.tuple #[])) wr := by
  obtain ⟨L, h1, h2, h3⟩ := h
  have := E.len h1
  exact ⟨rfl, L, h1, h2.head (by omega), h3⟩
/-- A block more of the first rounds. -/
theorem StB1.step {L0 : List NodeD} {s q : Nat} {wr : World} (h : StB1 key S L0 s q wr) (E : SEnv fp key g n S) (hn : (q + 1) * s ≤ n) (cap : Nat) {A B : Int} (hA : A = ((q * s : Nat) : Int)) (hB : B = A + s) :
    Calls Try.prog 51 #[.slice (some ⟨g, 0, none⟩) n cap, .int .i64 A, .int .i64 B, .func (.func 29) #[] #[.pointer (some fp)]] wr (fun e w' => e = .returned (.tuple #[]) ∧ StB1 key S L0 s (q + 1) w') := by
  obtain ⟨D, R, h1, h2, h3, h4⟩ := h
  have hl := E.len h2
  rw [List.length_append, h1] at hl
  rw [Nat.succ_mul] at hn
  have hR : s ≤ R.length := by omega
  have hX : (R.take s).length = s := by rw [List.length_take]; omega
  have h5 : S (D ++ R.take s ++ R.drop s) wr := by rw [List.append_assoc, List.take_append_drop]; exact h2
  have hi := insertionSort_ (key := key) E h5 cap (a := q * s) (b := q * s + s) (by omega) (by omega)
  rw [hB, hA]
  refine (by simpa using hi : Calls _ _ _ _ _).mono fun e w' hh => ?_
  obtain ⟨rfl, X', l1, hs', hf, hsr⟩ := hh
  refine ⟨rfl, D ++ X', R.drop s, by rw [List.length_append, Nat.succ_mul]; omega, hs', BS.app h1 h3 (BS.one (by omega) hsr), ?_⟩
  have : Flt key (D ++ R) (D ++ X' ++ R.drop s) := by
    have := (Flt.refl (key := key) D).app (hf.app (Flt.refl (R.drop s)))
    rw [List.take_append_drop] at this
    simpa using this
  exact h4.trans this
theorem StB1.last {L0 : List NodeD} {s q : Nat} {wr : World} (h : StB1 key S L0 s q wr) (E : SEnv fp key g n S) (hn : n < (q + 1) * s) (cap : Nat) {A : Int} (hA : A = ((q * s : Nat) : Int)) :
    Calls Try.prog 51 #[.slice (some ⟨g, 0, none⟩) n cap, .int .i64 A, .int .i64 (n : Int), .func (.func 29) #[] #[.pointer (some fp)]] wr (fun e w' => e = .returned (.tuple #[]) ∧ StS key S L0 s w') := by
  obtain ⟨D, R, h1, h2, h3, h4⟩ := h
  have hl := E.len h2
  rw [List.length_append, h1] at hl
  rw [Nat.succ_mul] at hn
  have h5 : S (D ++ R ++ []) wr := by rw [List.append_nil]; exact h2
  have hi := insertionSort_ (key := key) E h5 cap (a := q * s) (b := n) (by omega) (by omega)
  rw [hA]
  refine hi.mono fun e w' hh => ?_
  obtain ⟨rfl, X', l1, hs', hf, hsr⟩ := hh
  rw [List.append_nil] at hs'
  exact ⟨rfl, D ++ X', hs', BS.app h1 h3 (BS.one (by omega) hsr), h4.trans ((Flt.refl (key := key) D).app hf)⟩
theorem StS.two {L0 : List NodeD} {s : Nat} {wr : World} (h : StS key S L0 s wr) : StB2 key S L0 s 0 wr := by
  obtain ⟨L, h1, h2, h3⟩ := h
  exact ⟨[], L, by simp, h1, BS.nil _, h2, h3⟩
theorem StB2.step {L0 : List NodeD} {s q : Nat} {wr : World} (h : StB2 key S L0 s q wr) (E : SEnv fp key g n S) (hs0 : 0 < s) (hn : q * (2 * s) + 2 * s ≤ n) (cap : Nat) {A M B : Int} (hA : A = ((q * (2 * s) : Nat) : Int)) (hM : M = A + s) (hB : B = A + 2 * s) :
    Calls Try.prog 52 #[.slice (some ⟨g, 0, none⟩) n cap, .int .i64 A, .int .i64 M, .int .i64 B, .func (.func 29) #[] #[.pointer (some fp)]] wr (fun e w' => e = .returned (.tuple #[]) ∧ StB2 key S L0 s (q + 1) w') := by
  obtain ⟨D, R, h1, h2, h3, h4, h5⟩ := h
  have hl := E.len h2
  rw [List.length_append, h1] at hl
  obtain ⟨U, R1, rfl, lU, sU, bR1⟩ := h4.split (by omega)
  rw [List.length_append] at hl
  obtain ⟨V, R2, rfl, lV, sV, bR2⟩ := bR1.split (by omega)
  refine (sym_all E cap (U.length + V.length) wr D U V R2 A M B (Nat.le_refl _) (by simpa using h2) (by omega) (by omega) (by omega) (by omega) (by omega) sU sV).mono fun e w' hh => ?_
  obtain ⟨rfl, X, lX, hs', hm⟩ := hh
  refine ⟨rfl, D ++ X, R2, by rw [List.length_append, Nat.succ_mul]; omega, hs', BS.app h1 h3 (BS.one (by omega) hm.2), bR2, h5.trans ?_⟩
  have := (Flt.refl (key := key) D).app (hm.1.app (Flt.refl R2))
  simpa using this
/-- What is left of one width: less than two blocks. -/
theorem StB2.two {L0 : List NodeD} {s q : Nat} {wr : World} (h : StB2 key S L0 s q wr) (E : SEnv fp key g n S) (hs0 : 0 < s) (hn : n < q * (2 * s) + 2 * s) (hm : q * (2 * s) + s < n) (cap : Nat) {A M : Int} (hA : A = ((q * (2 * s) : Nat) : Int)) (hM : M = A + s) :
    Calls Try.prog 52 #[.slice (some ⟨g, 0, none⟩) n cap, .int .i64 A, .int .i64 M, .int .i64 (n : Int), .func (.func 29) #[] #[.pointer (some fp)]] wr (fun e w' => e = .returned (.tuple #[]) ∧ StS key S L0 (2 * s) w') := by
  obtain ⟨D, R, h1, h2, h3, h4, h5⟩ := h
  have hl := E.len h2
  rw [List.length_append, h1] at hl
  obtain ⟨U, R1, rfl, lU, sU, bR1⟩ := h4.split (by omega)
  rw [List.length_append] at hl
  have sV := bR1.head (by omega)
  refine (sym_all E cap (U.length + R1.length) wr D U R1 [] A M n (Nat.le_refl _) (by simpa using h2) (by omega) (by omega) (by omega) (by omega) (by omega) sU sV).mono fun e w' hh => ?_
  obtain ⟨rfl, X, lX, hs', hm'⟩ := hh
  rw [List.append_nil] at hs'
  exact ⟨rfl, D ++ X, hs', BS.app h1 h3 (BS.one (by omega) hm'.2), h5.trans ((Flt.refl (key := key) D).app hm'.1)⟩
theorem StB2.one {L0 : List NodeD} {s q : Nat} {wr : World} (h : StB2 key S L0 s q wr) (E : SEnv fp key g n S) (hm : n ≤ q * (2 * s) + s) : StS key S L0 (2 * s) wr := by
  obtain ⟨D, R, h1, h2, h3, h4, h5⟩ := h
  have hl := E.len h2
  rw [List.length_append, h1] at hl
  exact ⟨D ++ R, h2, BS.app h1 h3 (BS.one (by omega) (h4.head (by omega))), h5⟩
set_option maxHeartbeats 16000000 in
theorem stable_ (E : SEnv fp key g n S) {W : World} {L : List NodeD} (h : S L W) (cap : Nat) :
    Calls Try.prog 39 #[.slice (some ⟨g, 0, none⟩) n cap, .int .i64 (n : Int), .func (.func 29) #[] #[.pointer (some fp)]] W (StQ key S L) := by
  have hn := E.small
  have HE := Lib.hid E
  have HS : Hid (StB1 key S L 20 0 W) := Lib.hid ⟨[], L, rfl, h, BS.nil _, Flt.refl _⟩
  clear h E
  go_enter Try.func39, Try.ntmps39
  go_wp2
  go_loopw [7, 8] (fun a b wr => ∃ q : Nat, q * 20 ≤ n ∧ a = .int .i64 ((q * 20 : Nat) : Int) ∧ b = .int .i64 (((q * 20 : Nat) : Int) + 20) ∧ StB1 key S L 20 q wr) (fun a _ _ => n - (intOf a).toNat)
  case atStart => exact ⟨0, by omega, rfl, rfl, HS.out⟩
  case round =>
    obtain ⟨q, hq, rfl, rfl, hb⟩ := hrel
    clear HS
    obtain ⟨z, hz⟩ : ∃ z, z = q * 20 := ⟨_, rfl⟩
    rw [← hz] at hq ⊢
    have HZ := Lib.hid hz
    have HB := Lib.hid hb
    clear hb hz
    by_cases hlt : (z : Int) + 20 ≤ (n : Int)
    · have HI := Lib.hid (HB.out.step HE.out (by have := HZ.out; omega) cap (A := (z : Int)) (B := (z : Int) + 20) (by rw [HZ.out]) rfl)
      go_wp2_with fail
      refine HI.out.mono ?_
      rintro e w5 ⟨rfl, h5⟩
      have H5 := Lib.hid h5
      clear h5
      go_wp2
      go_roundw
      case rel => exact ⟨q + 1, by have := HZ.out; omega, by have := HZ.out; go_num, by have := HZ.out; go_num, H5.out⟩
      case measure => simp [intOf]; omega
    · have HI := Lib.hid (HB.out.last HE.out (by have := HZ.out; omega) cap (A := (z : Int)) (by rw [HZ.out]))
      go_wp2_with fail
      refine HI.out.mono ?_
      rintro e w5 ⟨rfl, h5⟩
      have H5 := Lib.hid h5
      clear h5
      go_wp2
      go_loopw [6, 7, 8, 9] (fun c _ _ _ wr => ∃ s : Nat, 0 < s ∧ s ≤ 2000000 ∧ c = .int .i64 (s : Int) ∧ StS key S L s wr) (fun c _ _ _ _ => 2 * n - (intOf c).toNat)
      case atStart => exact ⟨20, by omega, by omega, rfl, H5.out⟩
      case round =>
        obtain ⟨s, hs0, hs9, rfl, hb⟩ := hrel
        clear HI HB HZ H5
        obtain ⟨wo, rfl⟩ : ∃ wo : World, wo = wr := ⟨_, rfl⟩
        by_cases hsn : (s : Int) < (n : Int)
        · have HB := Lib.hid hb.two
          clear hb
          go_wp2
          go_loopw [7, 8] (fun a b wr => ∃ q : Nat, q * (2 * s) ≤ n ∧ a = .int .i64 ((q * (2 * s) : Nat) : Int) ∧ b = .int .i64 (((q * (2 * s) : Nat) : Int) + 2 * (s : Int)) ∧ StB2 key S L s q wr) (fun a _ _ => n - (intOf a).toNat)
          case atStart => exact ⟨0, by omega, by go_num, by go_num, HB.out⟩
          case round =>
            obtain ⟨q, hq, rfl, rfl, hb⟩ := hrel
            clear HB
            obtain ⟨z, hz⟩ : ∃ z, z = q * (2 * s) := ⟨_, rfl⟩
            have hz1 : (q + 1) * (2 * s) = z + 2 * s := by rw [hz, Nat.succ_mul]
            rw [← hz] at hq ⊢
            have HZ := Lib.hid hz
            have HZ1 := Lib.hid hz1
            have HB := Lib.hid hb
            clear hb hz hz1
            by_cases hlt : (z : Int) + 2 * (s : Int) ≤ (n : Int)
            · have HI := Lib.hid (HB.out.step HE.out hs0 (by have := HZ.out; omega) cap (A := (z : Int)) (M := (z : Int) + s) (B := (z : Int) + 2 * s) (by rw [HZ.out]) rfl rfl)
              go_wp2_with fail
              refine HI.out.mono ?_
              rintro e w6 ⟨rfl, h6⟩
              have H6 := Lib.hid h6
              clear h6
              go_wp2
              go_roundw
              case rel => exact ⟨q + 1, by have := HZ1.out; omega, by have := HZ1.out; go_num, by have := HZ1.out; go_num, H6.out⟩
              case measure => simp [intOf]; omega
            · by_cases hm : (z : Int) + (s : Int) < (n : Int)
              · have HI := Lib.hid (HB.out.two HE.out hs0 (by have := HZ.out; omega) (by have := HZ.out; omega) cap (A := (z : Int)) (M := (z : Int) + s) (by rw [HZ.out]) rfl)
                go_wp2_with fail
                refine HI.out.mono ?_
                rintro e w6 ⟨rfl, h6⟩
                have H6 := Lib.hid h6
                clear h6
                go_wp2
                go_roundw
                case rel => exact ⟨2 * s, by omega, by omega, by go_num, H6.out⟩
                case measure => simp [intOf]; omega
              · have H6 := Lib.hid (HB.out.one HE.out (by have := HZ.out; omega))
                go_wp2
                go_roundw
                case rel => exact ⟨2 * s, by omega, by omega, by go_num, H6.out⟩
                case measure => simp [intOf]; omega
        · have HF := Lib.hid (hb.done HE.out (by omega))
          clear hb
          go_wp2
          go_returns
          exact HF.out
end
end Go.Proofs.Ytgnimegdgphlmaa
/-
  Package topo: the comparison of Order; nodes that change places in the walker.
-/
namespace Go.Proofs.Ytgnimegdgphlmaa
open Go.ChangeShapes Go.WideShapes Go.ChangeAt Go.RowKit
set_option linter.unusedVariables false
set_option linter.unusedSimpArgs false
attribute [local go_sem ↓] Go.wp_at_zero Go.wp_at_succ
def cmpI (x y : Int) : Int := if x < y then -1 else if y < x then 1 else 0
theorem cmpI_neg (x y : Int) : cmpI x y < 0 ↔ x < y := by
  unfold cmpI
  (repeat' split) <;> omega
theorem cmp_Compare (x y : Int) (w : World) : Calls Try.prog 30 #[.int .i64 x, .int .i64 y] w fun e w' => e = .returned (.int .i64 (cmpI x y)) ∧ w = w' := by
  rcases Int.lt_trichotomy x y with h | h | h
  · have e : cmpI x y = -1 := by unfold cmpI; rw [if_pos h]
    rw [e]
    clear e
    go_enter Try.func30, Try.ntmps30
    go_wp2
    go_ret
    exact ⟨rfl, rfl⟩
  · subst h
    have e : cmpI x x = 0 := by unfold cmpI; simp
    rw [e]
    clear e
    go_enter Try.func30, Try.ntmps30
    go_wp2
    go_ret
    exact ⟨rfl, rfl⟩
  · have e : cmpI x y = 1 := by unfold cmpI; rw [if_neg (by omega), if_pos h]
    rw [e]
    clear e
    have h' : ¬ x < y := by omega
    go_enter Try.func30, Try.ntmps30
    go_wp2
    go_ret
    exact ⟨rfl, rfl⟩
theorem flat_set (ns : List NodeD) (i : Nat) (x : NodeD) : ((((ns.flatMap nodeC).set (i * 3) (.bool x.read)).set (i * 3 + 1) (.int .i64 x.mem)).set (i * 3 + 2) (.int .i64 x.pos)) = (ns.set i x).flatMap nodeC := by
  induction ns generalizing i with
  | nil => rfl
  | cons y ns ih =>
    cases i with
    | zero => rfl
    | succ i =>
      rw [List.set_cons_succ, List.flatMap_cons, List.flatMap_cons, ← ih i]
      have e0 : (i + 1) * 3 = i * 3 + 3 := by omega
      have e1 : (i + 1) * 3 + 1 = i * 3 + 1 + 3 := by omega
      have e2 : (i + 1) * 3 + 2 = i * 3 + 2 + 3 := by omega
      rw [e1, e2, e0]
      simp [nodeC]
/-- What the sorting works on: the walker whose nodes stand in another order; the box of its pointer. -/
structure OrdS (w0 : World) (d : NetD) (V : Nat) (vi vl vo vb vc vm va : Value) (bw bo bm bl g cap n : Nat) (m9 lv9 : Int → Nat) (fp : Nat) (L : List NodeD) (W : World) : Prop where
  wk : Wk w0 d V vi vl vo vb vc vm va bw bo bm bl (.slice (some ⟨g, 0, none⟩) n cap) L (fun i => ofN (nodesN d) i) (fun i => m9 i) (fun i => lv9 i) W
  len : L.length = n
  mem : ∀ x ∈ L, x ∈ nodesN d
  ptr : Blk W fp 61 #[.pointer (some ⟨bw, 0, none⟩)]
  ne : fp ≠ g
section
variable {w0 W W' : World} {d : NetD} {V : Nat} {vi vl vo vb vc vm va : Value} {bw bo bm bl g cap n : Nat} {m9 lv9 : Int → Nat} {fp : Nat} {L : List NodeD}
theorem OrdS.below (h : OrdS w0 d V vi vl vo vb vc vm va bw bo bm bl g cap n m9 lv9 fp L W) (hb : Below W.heap.size W W') : OrdS w0 d V vi vl vo vb vc vm va bw bo bm bl g cap n m9 lv9 fp L W' :=
  ⟨h.wk.below hb, h.len, h.mem, h.ptr.below hb h.ptr.lt, h.ne⟩
theorem OrdS.row (h : OrdS w0 d V vi vl vo vb vc vm va bw bo bm bl g cap n m9 lv9 fp L W) : Row W 44 3 (.slice (some ⟨g, 0, none⟩) n cap) n (L.flatMap nodeC) := by
  have := h.wk.row
  rwa [h.len] at this
theorem OrdS.put (h : OrdS w0 d V vi vl vo vb vc vm va bw bo bm bl g cap n m9 lv9 fp L W) {i : Nat} {x : NodeD} (hx : x ∈ nodesN d) : OrdS w0 d V vi vl vo vb vc vm va bw bo bm bl g cap n m9 lv9 fp (L.set i x) (put3 W g i x) := by
  have hf := h.wk.far g rfl
  have hc : Chg (fun i => i = g) W (put3 W g i x) := (((Chg.refl (fun i => i = g) W).setCell (p := ⟨g, i * 3, none⟩) (.inl rfl) _).setCell (p := ⟨g, i * 3 + 1, none⟩) (.inl rfl) _).setCell (p := ⟨g, i * 3 + 2, none⟩) (.inl rfl) _
  have hr := ((h.row.set1 (i * 3) (.bool x.read)).set1 (i * 3 + 1) (.int .i64 x.mem)).set1 (i * 3 + 2) (.int .i64 x.pos)
  rw [flat_set] at hr
  have k := h.wk
  refine ⟨⟨k.net, k.low.trans (hc.below k.low.size (fun j hj => by subst hj; exact hf.1)), k.box.chg hc (fun e => hf.2.1 e.symm), Blk.chg k.of_ hc (fun e => hf.2.2.1 e.symm), Blk.chg k.mks hc (fun e => hf.2.2.2.1 e.symm), Blk.chg k.lv hc (fun e => hf.2.2.2.2 e.symm), ?_, k.pw, k.ne, k.far⟩, by rw [List.length_set]; exact h.len, fun y hy => ?_, h.ptr.chg hc h.ne, h.ne⟩
  · rw [List.length_set, h.len]; exact hr
  · rcases List.mem_or_eq_of_mem_set hy with hy | rfl
    · exact h.mem y hy
    · exact hx
theorem OrdS.at_ (h : OrdS w0 d V vi vl vo vb vc vm va bw bo bm bl g cap n m9 lv9 fp L W) {i : Nat} (hi : i < n) :
    W.cell? ⟨g, i * 3, none⟩ = some (.bool (L.getD i node0).read) ∧ W.cell? ⟨g, i * 3 + 1, none⟩ = some (.int .i64 (L.getD i node0).mem) ∧ W.cell? ⟨g, i * 3 + 2, none⟩ = some (.int .i64 (L.getD i node0).pos) := by
  obtain ⟨g', cap', e, -, -, h1, h2, h3⟩ := h.wk.node (k := i) (by rw [h.len]; exact hi)
  injection e with e1 e2 e3
  injection e1 with e1
  injection e1 with e1
  subst e1
  exact ⟨h1, h2, h3⟩
theorem OrdS.fz (h : OrdS w0 d V vi vl vo vb vc vm va bw bo bm bl g cap n m9 lv9 fp L W) (j : Nat) : W.frozen? ⟨g, j, none⟩ = false := by
  obtain ⟨-, hr⟩ := h.row
  rcases hr with ⟨hr, -⟩ | ⟨g', cap', cur, hr, -, hb, -⟩
  · cases hr
  · injection hr with e1
    injection e1 with e1
    injection e1 with e1
    subst e1
    have hB : Blk W g 44 cur := hb
    exact hB.frozen j
theorem OrdS.node (h : OrdS w0 d V vi vl vo vb vc vm va bw bo bm bl g cap n m9 lv9 fp L W) {i : Nat} (hi : i < n) : L.getD i node0 ∈ nodesN d :=
  h.mem _ (by rw [getD_el node0 (by rw [h.len]; exact hi)]; exact List.getElem_mem _)
end
/-- A list of numbers, its first. -/
def ToQ (vx : Nat) (w : World) (e : Ending) (w' : World) : Prop := ∃ b n cap : Nat, e = .returned (.slice (some ⟨b, 0, none⟩) n cap) ∧ 0 < n ∧ w'.cell? ⟨b, 0, none⟩ = some (.int .i64 (vx : Int)) ∧ Below w.heap.size w w'
theorem RetI.first {w w' : World} {xs : List Int} {e : Ending} (h : RetI w xs e w') (hne : xs ≠ []) {vx : Nat} (hv : xs.headD 0 = vx) : ToQ vx w e w' := by
  obtain ⟨u, rfl, ho⟩ := h
  rcases ho.1.form with ⟨-, h0, -⟩ | ⟨g, cap, rfl, -, -, -, hc⟩
  · exact absurd (List.eq_nil_of_length_eq_zero h0) hne
  · have hl : 0 < xs.length := List.length_pos_iff.2 hne
    refine ⟨g, xs.length, cap, rfl, hl, ?_, ho.2.1⟩
    rw [(hc 0 (by simpa using hl)).1]
    cases xs with
    | nil => exact absurd rfl hne
    | cons a t => simp at hv; rw [hv]; rfl
def keyL (lv9 : Int → Nat) (x : NodeD) : Int := (lv9 (x.vars.headD 0) : Nat)
def OrdCQ (w : World) (k : Int) (e : Ending) (w' : World) : Prop := e = .returned (.int .i64 k) ∧ Below w.heap.size w w'
set_option maxHeartbeats 16000000 in
set_option maxRecDepth 100000 in
theorem ord_cmp {w0 W : World} {d : NetD} {V : Nat} {vi vl vo vb vc vm va : Value} {bw bo bm bl g cap n : Nat} {m9 lv9 : Int → Nat} {fp : Nat} {L : List NodeD} (h : OrdS w0 d V vi vl vo vb vc vm va bw bo bm bl g cap n m9 lv9 fp L W) (hl0 : lightN d = true) (hs : SoundD d V)
    {x y : NodeD} (hx : x ∈ nodesN d) (hy : y ∈ nodesN d) :
    Calls Try.prog 29 #[nodeV x, nodeV y, .pointer (some ⟨fp, 0, none⟩)] W (OrdCQ W (cmpI (keyL lv9 x) (keyL lv9 y))) := by
  have ok := hs.nodes
  have hvar : ∀ z, z ∈ nodesN d → z.vars ≠ [] ∧ ∃ k : Nat, z.vars.headD 0 = k ∧ k < V + 1 := fun z hz => by
    obtain ⟨i, hi, rfl⟩ := getD_idx (d := node0) hz
    have h1 := ok.vne i hi
    refine ⟨h1, ?_⟩
    obtain ⟨q, hq⟩ : ∃ q, q = ((nodesN d).getD i node0).vars.headD 0 := ⟨_, rfl⟩
    have hm : q ∈ ((nodesN d).getD i node0).vars := by
      rw [hq]
      cases hc : ((nodesN d).getD i node0).vars with
      | nil => exact absurd hc h1
      | cons a t => simp
    have hr := ok.vrng i hi q hm
    rw [← hq]
    exact ⟨q.toNat, by omega, by omega⟩
  obtain ⟨nx, kx, ex, lx⟩ := hvar x hx
  obtain ⟨ny, ky, ey, ly⟩ := hvar y hy
  have hkx : keyL lv9 x = (lv9 (kx : Int) : Nat) := by unfold keyL; rw [ex]
  have hky : keyL lv9 y = (lv9 (ky : Int) : Nat) := by unfold keyL; rw [ey]
  rw [hkx, hky]
  obtain ⟨Wb, hWb⟩ : ∃ Wb, Wb = (W.alloc (.cells #[.bool x.read, .int .i64 x.mem, .int .i64 x.pos] 44)).alloc (.cells #[.bool y.read, .int .i64 y.mem, .int .i64 y.pos] 44) := ⟨_, rfl⟩
  have hB : Below W.heap.size W Wb := by rw [hWb]; exact ((Below.refl _ W).alloc (Nat.le_refl _) _).alloc (by simp) _
  have hO := h.below hB
  have HTX : Hid (∀ W', Below Wb.heap.size Wb W' → Calls Try.prog 31 #[.pointer (some ⟨bw, 0, none⟩), nodeV x] W' (ToQ kx W')) := Lib.hid fun W' hb => (topo_to (hO.below hb).wk hl0 hs (isNode_mem hx)).mono fun e w' hh => hh.first nx ex
  have HTY : Hid (∀ W', Below Wb.heap.size Wb W' → Calls Try.prog 31 #[.pointer (some ⟨bw, 0, none⟩), nodeV y] W' (ToQ ky W')) := Lib.hid fun W' hb => (topo_to (hO.below hb).wk hl0 hs (isNode_mem hy)).mono fun e w' hh => hh.first ny ey
  obtain ⟨a, ha⟩ : ∃ a : Nat, a = lv9 (kx : Int) := ⟨_, rfl⟩
  obtain ⟨b, hb⟩ : ∃ b : Nat, b = lv9 (ky : Int) := ⟨_, rfl⟩
  have CK : Hid (∀ W', Below Wb.heap.size Wb W' → W'.cell? ⟨fp, 0, none⟩ = some (.pointer (some ⟨bw, 0, none⟩)) ∧ W'.cell? ⟨bw, 11, none⟩ = some (.slice (some ⟨bl, 0, none⟩) (V + 1) (V + 1)) ∧ W'.cell? ⟨bl, kx, none⟩ = some (.int .i64 (a : Int)) ∧ W'.cell? ⟨bl, ky, none⟩ = some (.int .i64 (b : Int)) ∧
      W'.cell? ⟨W.heap.size, 0, none⟩ = some (.bool x.read) ∧ W'.cell? ⟨W.heap.size, 1, none⟩ = some (.int .i64 x.mem) ∧ W'.cell? ⟨W.heap.size, 2, none⟩ = some (.int .i64 x.pos) ∧ W'.cell? ⟨W.heap.size + 1, 0, none⟩ = some (.bool y.read) ∧ W'.cell? ⟨W.heap.size + 1, 1, none⟩ = some (.int .i64 y.mem) ∧ W'.cell? ⟨W.heap.size + 1, 2, none⟩ = some (.int .i64 y.pos)) := Lib.hid fun W' hb' => by
    have hO' := hO.below hb'
    have x1 : Blk Wb W.heap.size 44 #[.bool x.read, .int .i64 x.mem, .int .i64 x.pos] := by rw [hWb]; exact (Blk.new W _ _).alloc _
    have y1 : Blk Wb (W.heap.size + 1) 44 #[.bool y.read, .int .i64 y.mem, .int .i64 y.pos] := by
      rw [hWb]
      have := Blk.new (W.alloc (.cells #[.bool x.read, .int .i64 x.mem, .int .i64 x.pos] 44)) 44 #[.bool y.read, .int .i64 y.mem, .int .i64 y.pos]
      simpa using this
    have x2 := x1.below hb' x1.lt
    have y2 := y1.below hb' y1.lt
    exact ⟨hO'.ptr.cell 0, hO'.wk.c.2.2.2.1, by rw [ha]; exact hO'.wk.lv.cell lx, by rw [hb]; exact hO'.wk.lv.cell ly, x2.cell 0, x2.cell 1, x2.cell 2, y2.cell 0, y2.cell 1, y2.cell 2⟩
  rw [← ha, ← hb]
  have hV := hs.lim
  have HF : Hid (∀ w', Below Wb.heap.size Wb w' → OrdCQ W (cmpI (a : Int) (b : Int)) (.returned (.int .i64 (cmpI (a : Int) (b : Int)))) w') := Lib.hid fun w' hb' => ⟨rfl, hB.trans (hb'.mono hB.size)⟩
  have HW := Lib.hid hWb
  have hx1 : (kx : Int) < (V : Int) + 1 := by omega
  have hy1 : (ky : Int) < (V : Int) + 1 := by omega
  obtain ⟨c0, c1, c2, c3, c4, c5, c6, c7, c8, c9⟩ := CK.out Wb (Below.refl _ _)
  obtain ⟨K, hK⟩ : ∃ K, K = cmpI (a : Int) (b : Int) := ⟨_, rfl⟩
  have HC : Hid (∀ w, Calls Try.prog 30 #[.int .i64 (a : Int), .int .i64 (b : Int)] w fun e w' => e = .returned (.int .i64 K) ∧ w = w') := Lib.hid fun w => by rw [hK]; exact cmp_Compare _ _ w
  rw [← hK] at HF ⊢
  rw [hWb] at c0 c1 c2 c3 c4 c5 c6 c7 c8 c9
  unfold nodeV at HTX HTY ⊢
  generalize x.read = xr at *
  generalize x.mem = xm at *
  generalize x.pos = xp at *
  generalize y.read = yr at *
  generalize y.mem = ym at *
  generalize y.pos = yp at *
  clear h hx hy ok hvar hO hWb hB ha hb hs hl0 hkx hky ex ey nx ny hK
  go_enter Try.func29, Try.ntmps29
  go_wp2
  refine wp_region_held_drew (S := (fun w' => w'.cell? ⟨fp, 0, none⟩ = some (.pointer (some ⟨bw, 0, none⟩)) ∧ w'.cell? ⟨bw, 11, none⟩ = some (.slice (some ⟨bl, 0, none⟩) (V + 1) (V + 1)) ∧ w'.cell? ⟨bl, kx, none⟩ = some (.int .i64 (a : Int)) ∧ w'.cell? ⟨bl, ky, none⟩ = some (.int .i64 (b : Int)) ∧ w'.cell? ⟨W.heap.size, 0, none⟩ = some (.bool xr) ∧ w'.cell? ⟨W.heap.size, 1, none⟩ = some (.int .i64 xm) ∧ w'.cell? ⟨W.heap.size, 2, none⟩ = some (.int .i64 xp) ∧ w'.cell? ⟨W.heap.size + 1, 0, none⟩ = some (.bool yr) ∧ w'.cell? ⟨W.heap.size + 1, 1, none⟩ = some (.int .i64 ym) ∧ w'.cell? ⟨W.heap.size + 1, 2, none⟩ = some (.int .i64 yp))) (by kernel_rfl) ?_ (fun hHeld => ?_)
  · (try dsimp only) <;> go_keep
  refine wpAnyH_take (i := 0) (v := ?_) rfl (by kernel_rfl) (by kernel_rfl) (by kernel_rfl) (fun _ _ _ h => h) (Or.inl ⟨by rfl, ?_⟩) (by assumption) ?_
  rotate_left
  · (intro w hSw; (try dsimp only at hSw); go_simp; try with_reducible rfl)
  try simp only [Act.put, List.setIfInBounds_toArray, List.set_cons_zero, List.set_cons_succ]
  refine wpAnyH_take (i := 1) (v := ?_) rfl (by kernel_rfl) (by kernel_rfl) (by kernel_rfl) (fun _ _ _ h => h) (Or.inl ⟨by rfl, ?_⟩) (by assumption) ?_
  rotate_left
  · (intro w hSw; (try dsimp only at hSw); go_simp; try with_reducible rfl)
  try simp only [Act.put, List.setIfInBounds_toArray, List.set_cons_zero, List.set_cons_succ]
  refine wpAnyH_take (i := 2) (v := ?_) rfl (by kernel_rfl) (by kernel_rfl) (by kernel_rfl) (fun _ _ _ h => h) (Or.inl ⟨by rfl, ?_⟩) (by assumption) ?_
  rotate_left
  · (intro w hSw; (try dsimp only at hSw); go_simp; try with_reducible rfl)
  try simp only [Act.put, List.setIfInBounds_toArray, List.set_cons_zero, List.set_cons_succ]
  refine wpAnyH_take (i := 3) (v := ?_) rfl (by kernel_rfl) (by kernel_rfl) (by kernel_rfl) (fun _ _ _ h => h) (Or.inl ⟨by rfl, ?_⟩) (by assumption) ?_
  rotate_left
  · (intro w hSw; (try dsimp only at hSw); go_simp; try with_reducible rfl)
  try simp only [Act.put, List.setIfInBounds_toArray, List.set_cons_zero, List.set_cons_succ]
  refine wpAnyH_take (i := 4) (v := ?_) rfl (by kernel_rfl) (by kernel_rfl) (by kernel_rfl) (fun _ _ _ h => h) (Or.inl ⟨by rfl, ?_⟩) (by assumption) ?_
  rotate_left
  · (intro w hSw; (try dsimp only at hSw); go_simp; try with_reducible rfl)
  try simp only [Act.put, List.setIfInBounds_toArray, List.set_cons_zero, List.set_cons_succ]
  refine wpAnyH_take (i := 5) (v := ?_) rfl (by kernel_rfl) (by kernel_rfl) (by kernel_rfl) (fun _ _ _ h => h) (Or.inl ⟨by rfl, ?_⟩) (by assumption) ?_
  rotate_left
  · (intro w hSw; (try dsimp only at hSw); go_simp; try with_reducible rfl)
  try simp only [Act.put, List.setIfInBounds_toArray, List.set_cons_zero, List.set_cons_succ]
  refine wpAnyH_take (i := 11) (v := ?_) rfl (by kernel_rfl) (by kernel_rfl) (by kernel_rfl) (fun _ _ _ h => h) (Or.inl ⟨by rfl, ?_⟩) (by assumption) ?_
  rotate_left
  · (intro w hSw; (try dsimp only at hSw); go_simp; try with_reducible rfl)
  try simp only [Act.put, List.setIfInBounds_toArray, List.set_cons_zero, List.set_cons_succ]
  refine wpAnyH_take (i := 12) (v := ?_) rfl (by kernel_rfl) (by kernel_rfl) (by kernel_rfl) (fun _ _ _ h => h) (Or.inl ⟨by rfl, ?_⟩) (by assumption) ?_
  rotate_left
  · (intro w hSw; (try dsimp only at hSw); go_simp; try with_reducible rfl)
  try simp only [Act.put, List.setIfInBounds_toArray, List.set_cons_zero, List.set_cons_succ]
  refine wpAnyH_take (i := 13) (v := ?_) rfl (by kernel_rfl) (by kernel_rfl) (by kernel_rfl) (fun _ _ _ h => h) (Or.inl ⟨by rfl, ?_⟩) (by assumption) ?_
  rotate_left
  · (intro w hSw; (try dsimp only at hSw); go_simp; try with_reducible rfl)
  try simp only [Act.put, List.setIfInBounds_toArray, List.set_cons_zero, List.set_cons_succ]
  refine wpAnyH_take (i := 14) (v := ?_) rfl (by kernel_rfl) (by kernel_rfl) (by kernel_rfl) (fun _ _ _ h => h) (Or.inl ⟨by rfl, ?_⟩) (by assumption) ?_
  rotate_left
  · (intro w hSw; (try dsimp only at hSw); go_simp; try with_reducible rfl)
  try simp only [Act.put, List.setIfInBounds_toArray, List.set_cons_zero, List.set_cons_succ]
  refine wpAnyH_take (i := 15) (v := ?_) rfl (by kernel_rfl) (by kernel_rfl) (by kernel_rfl) (fun _ _ _ h => h) (Or.inl ⟨by rfl, ?_⟩) (by assumption) ?_
  rotate_left
  · (intro w hSw; (try dsimp only at hSw); go_simp; try with_reducible rfl)
  try simp only [Act.put, List.setIfInBounds_toArray, List.set_cons_zero, List.set_cons_succ]
  refine wpAnyH_take (i := 16) (v := ?_) rfl (by kernel_rfl) (by kernel_rfl) (by kernel_rfl) (fun _ _ _ h => h) (Or.inl ⟨by rfl, ?_⟩) (by assumption) ?_
  rotate_left
  · (intro w hSw; (try dsimp only at hSw); go_simp; try with_reducible rfl)
  try simp only [Act.put, List.setIfInBounds_toArray, List.set_cons_zero, List.set_cons_succ]
  refine wpAnyH_ready (rs := [6]) (by kernel_rfl) (by simp) ?_
  refine AllReadyH.cons rfl (fun K hK => ?_) AllReadyH.nil
  go_simp
  (go_at_call 31; refine (HTX.out _ (by rw [HW.out]; exact (Below.refl _ _).drew)).mono ?_; rintro e wa ⟨b1, n1, k1, rfl, hn1, hc1, hb1⟩; rw [← HW.out] at hb1; have HB1 := Lib.hid (((Below.refl _ Wb).drew).trans hb1); have HS1 := CK.out wa HB1.out; clear hb1)
  refine hK.out _ _ ?_ (fun hHeld => ?_)
  · (try dsimp only) <;> exact HS1
  clear hK K
  try simp only [Act.put, List.setIfInBounds_toArray, List.set_cons_zero, List.set_cons_succ]
  refine wpAnyH_mono (S' := fun w' => (w'.cell? ⟨fp, 0, none⟩ = some (.pointer (some ⟨bw, 0, none⟩)) ∧ w'.cell? ⟨bw, 11, none⟩ = some (.slice (some ⟨bl, 0, none⟩) (V + 1) (V + 1)) ∧ w'.cell? ⟨bl, kx, none⟩ = some (.int .i64 (a : Int)) ∧ w'.cell? ⟨bl, ky, none⟩ = some (.int .i64 (b : Int)) ∧ w'.cell? ⟨W.heap.size, 0, none⟩ = some (.bool xr) ∧ w'.cell? ⟨W.heap.size, 1, none⟩ = some (.int .i64 xm) ∧ w'.cell? ⟨W.heap.size, 2, none⟩ = some (.int .i64 xp) ∧ w'.cell? ⟨W.heap.size + 1, 0, none⟩ = some (.bool yr) ∧ w'.cell? ⟨W.heap.size + 1, 1, none⟩ = some (.int .i64 ym) ∧ w'.cell? ⟨W.heap.size + 1, 2, none⟩ = some (.int .i64 yp)) ∧ w'.cell? ⟨b1, 0, none⟩ = some (.int .i64 (kx : Int))) (fun _ h => h.1) ?_
  have hHeld2 := And.intro HS1 hc1
  have hn1' : (0 : Int) < (n1 : Int) := by omega
  refine wpAnyH_take (i := 7) (v := ?_) rfl (by kernel_rfl) (by kernel_rfl) (by kernel_rfl) (fun _ _ _ h => h) (Or.inl ⟨by rfl, ?_⟩) (by assumption) ?_
  rotate_left
  · (intro w hSw; (try dsimp only at hSw); go_simp; try with_reducible rfl)
  try simp only [Act.put, List.setIfInBounds_toArray, List.set_cons_zero, List.set_cons_succ]
  refine wpAnyH_take (i := 8) (v := ?_) rfl (by kernel_rfl) (by kernel_rfl) (by kernel_rfl) (fun _ _ _ h => h) (Or.inl ⟨by rfl, ?_⟩) (by assumption) ?_
  rotate_left
  · (intro w hSw; (try dsimp only at hSw); go_simp; try with_reducible rfl)
  try simp only [Act.put, List.setIfInBounds_toArray, List.set_cons_zero, List.set_cons_succ]
  refine wpAnyH_take (i := 9) (v := ?_) rfl (by kernel_rfl) (by kernel_rfl) (by kernel_rfl) (fun _ _ _ h => h) (Or.inl ⟨by rfl, ?_⟩) (by assumption) ?_
  rotate_left
  · (intro w hSw; (try dsimp only at hSw); go_simp; try with_reducible rfl)
  try simp only [Act.put, List.setIfInBounds_toArray, List.set_cons_zero, List.set_cons_succ]
  refine wpAnyH_take (i := 10) (v := ?_) rfl (by kernel_rfl) (by kernel_rfl) (by kernel_rfl) (fun _ _ _ h => h) (Or.inl ⟨by rfl, ?_⟩) (by assumption) ?_
  rotate_left
  · (intro w hSw; (try dsimp only at hSw); go_simp; try with_reducible rfl)
  try simp only [Act.put, List.setIfInBounds_toArray, List.set_cons_zero, List.set_cons_succ]
  refine wpAnyH_ready (rs := [17]) (by kernel_rfl) (by simp) ?_
  refine AllReadyH.cons rfl (fun K hK => ?_) AllReadyH.nil
  go_simp
  (go_at_call 31; refine (HTY.out _ HB1.out).mono ?_; rintro e wb ⟨b2, n2, k2, rfl, hn2, hc2, hb2⟩; have HB2 := Lib.hid (HB1.out.trans (hb2.mono HB1.out.size)); have HS2 := CK.out wb HB2.out; have hc3 := cell_below hc1 hb2; clear hb2)
  refine hK.out _ _ ?_ (fun hHeld => ?_)
  · (try dsimp only) <;> exact ⟨HS2, hc3⟩
  clear hK K
  try simp only [Act.put, List.setIfInBounds_toArray, List.set_cons_zero, List.set_cons_succ]
  refine wpAnyH_mono (S' := fun w' => ((w'.cell? ⟨fp, 0, none⟩ = some (.pointer (some ⟨bw, 0, none⟩)) ∧ w'.cell? ⟨bw, 11, none⟩ = some (.slice (some ⟨bl, 0, none⟩) (V + 1) (V + 1)) ∧ w'.cell? ⟨bl, kx, none⟩ = some (.int .i64 (a : Int)) ∧ w'.cell? ⟨bl, ky, none⟩ = some (.int .i64 (b : Int)) ∧ w'.cell? ⟨W.heap.size, 0, none⟩ = some (.bool xr) ∧ w'.cell? ⟨W.heap.size, 1, none⟩ = some (.int .i64 xm) ∧ w'.cell? ⟨W.heap.size, 2, none⟩ = some (.int .i64 xp) ∧ w'.cell? ⟨W.heap.size + 1, 0, none⟩ = some (.bool yr) ∧ w'.cell? ⟨W.heap.size + 1, 1, none⟩ = some (.int .i64 ym) ∧ w'.cell? ⟨W.heap.size + 1, 2, none⟩ = some (.int .i64 yp)) ∧ w'.cell? ⟨b1, 0, none⟩ = some (.int .i64 (kx : Int))) ∧ w'.cell? ⟨b2, 0, none⟩ = some (.int .i64 (ky : Int))) (fun _ h => h.1) ?_
  have hHeld3 := And.intro (And.intro HS2 hc3) hc2
  have hn2' : (0 : Int) < (n2 : Int) := by omega
  refine wpAnyH_take (i := 18) (v := ?_) rfl (by kernel_rfl) (by kernel_rfl) (by kernel_rfl) (fun _ _ _ h => h) (Or.inl ⟨by rfl, ?_⟩) (by assumption) ?_
  rotate_left
  · (intro w hSw; (try dsimp only at hSw); go_simp; try with_reducible rfl)
  try simp only [Act.put, List.setIfInBounds_toArray, List.set_cons_zero, List.set_cons_succ]
  refine wpAnyH_take (i := 19) (v := ?_) rfl (by kernel_rfl) (by kernel_rfl) (by kernel_rfl) (fun _ _ _ h => h) (Or.inl ⟨by rfl, ?_⟩) (by assumption) ?_
  rotate_left
  · (intro w hSw; (try dsimp only at hSw); go_simp; try with_reducible rfl)
  try simp only [Act.put, List.setIfInBounds_toArray, List.set_cons_zero, List.set_cons_succ]
  refine wpAnyH_take (i := 20) (v := ?_) rfl (by kernel_rfl) (by kernel_rfl) (by kernel_rfl) (fun _ _ _ h => h) (Or.inl ⟨by rfl, ?_⟩) (by assumption) ?_
  rotate_left
  · (intro w hSw; (try dsimp only at hSw); go_simp; try with_reducible rfl)
  try simp only [Act.put, List.setIfInBounds_toArray, List.set_cons_zero, List.set_cons_succ]
  refine wpAnyH_take (i := 21) (v := ?_) rfl (by kernel_rfl) (by kernel_rfl) (by kernel_rfl) (fun _ _ _ h => h) (Or.inl ⟨by rfl, ?_⟩) (by assumption) ?_
  rotate_left
  · (intro w hSw; (try dsimp only at hSw); go_simp; try with_reducible rfl)
  try simp only [Act.put, List.setIfInBounds_toArray, List.set_cons_zero, List.set_cons_succ]
  refine wpAnyH_ready (rs := [22]) (by kernel_rfl) (by simp) ?_
  refine AllReadyH.cons rfl (fun K hK => ?_) AllReadyH.nil
  go_simp
  (go_at_call 30; refine (HC.out _).mono ?_; rintro e wc ⟨rfl, rfl⟩)
  refine hK.out _ _ ?_ (fun hHeld => ?_)
  · (try dsimp only) <;> exact hHeld3
  clear hK K
  try simp only [Act.put, List.setIfInBounds_toArray, List.set_cons_zero, List.set_cons_succ]
  refine wpAnyH_ready (rs := [23]) (by kernel_rfl) (by simp) ?_
  refine AllReadyH.cons rfl (fun K hK => ?_) AllReadyH.nil
  go_simp
  skip
  refine hK.out _ _ ?_ (fun hHeld => ?_)
  · (try dsimp only) <;> exact hHeld3
  clear hK K
  try simp only [Act.put, List.setIfInBounds_toArray, List.set_cons_zero, List.set_cons_succ]
  refine wpAnyH_done (by kernel_rfl) ?_ _
  have HG := Lib.hid (HF.out _ HB2.out)
  clear HTX HTY HF CK HC
  go_wp2
  go_ret
  exact HG.out
end Go.Proofs.Ytgnimegdgphlmaa
/-
  Package topo: Order, walked: the document's order.
-/
namespace Go.Proofs.Ytgnimegdgphlmaa
open Go.ChangeShapes Go.WideShapes Go.ChangeAt Go.RowKit
set_option linter.unusedVariables false
set_option linter.unusedSimpArgs false
attribute [local go_sem ↓] Go.wp_at_zero Go.wp_at_succ
/-! ### the document's order is sorted, and alike level by level -/
theorem srt_ordN (l : List NodeD) (o : Int → Int) : ∀ a, Srt (fun x => o (x.vars.headD 0)) (ordN l o a)
  | 0 => by simp [ordN, Srt]
  | a + 1 => by
    rw [ordN_succ]
    refine (srt_ordN l o a).app ?_ fun x hx y hy => ?_
    · unfold Srt
      rw [List.pairwise_iff_forall_sublist]
      intro x y hxy
      have hx := (List.mem_filter.1 (hxy.subset (by simp : x ∈ [x, y]))).2
      have hy := (List.mem_filter.1 (hxy.subset (by simp : y ∈ [x, y]))).2
      have hx := of_decide_eq_true hx
      have hy := of_decide_eq_true hy
      show o _ ≤ o _
      omega
    · obtain ⟨-, k, hk, he⟩ := ordN_mem.1 hx
      have hy := of_decide_eq_true (List.mem_filter.1 hy).2
      show o _ ≤ o _
      omega
theorem flt_ordN_aux (l : List NodeD) (o : Int → Int) (k : Int) : ∀ a : Nat, (ordN l o a).filter (fun x => decide (o (x.vars.headD 0) = k)) = if 1 ≤ k ∧ k ≤ (a : Int) then l.filter (fun x => decide (o (x.vars.headD 0) = k)) else []
  | 0 => by rw [if_neg (by omega)]; rfl
  | a + 1 => by
    rw [ordN_succ, List.filter_append, flt_ordN_aux l o k a, List.filter_filter]
    by_cases hk : k = ((a + 1 : Nat) : Int)
    · rw [if_neg (by omega), if_pos (by omega), List.nil_append]
      refine List.filter_congr fun x _ => ?_
      unfold lvAt
      rw [hk]
      simp
    · have h2 : l.filter (fun x => decide (o (x.vars.headD 0) = k) && lvAt o a x) = [] := by
        rw [List.filter_eq_nil_iff]
        intro x _ h
        rw [Bool.and_eq_true] at h
        have h1 := of_decide_eq_true h.1
        have h3 := of_decide_eq_true h.2
        omega
      rw [h2, List.append_nil]
      by_cases h : 1 ≤ k ∧ k ≤ (a : Int)
      · rw [if_pos h, if_pos (by omega)]
      · rw [if_neg h, if_neg (by omega)]
theorem flt_ordN (l : List NodeD) (o : Int → Int) (a : Nat) (h : ∀ x ∈ l, 1 ≤ o (x.vars.headD 0) ∧ o (x.vars.headD 0) ≤ (a : Int)) : Flt (fun x => o (x.vars.headD 0)) l (ordN l o a) := fun k => by
  rw [flt_ordN_aux]
  by_cases hk : 1 ≤ k ∧ k ≤ (a : Int)
  · rw [if_pos hk]
  · rw [if_neg hk, List.filter_eq_nil_iff]
    intro x hx h1
    have := h x hx
    have h2 : o (x.vars.headD 0) = k := of_decide_eq_true h1
    omega
theorem ordN_congr {l : List NodeD} {o o' : Int → Int} (h : ∀ x ∈ l, o (x.vars.headD 0) = o' (x.vars.headD 0)) (a : Nat) : ordN l o a = ordN l o' a := by
  unfold ordN
  congr 1
  funext k
  refine List.filter_congr fun x hx => ?_
  unfold lvAt
  rw [h x hx]
theorem head_lev {l : List NodeD} {V : Nat} (ok : NodesOK l V) {x : NodeD} (hx : x ∈ l) : 0 ≤ x.vars.headD 0 ∧ x.vars.headD 0 ≤ (V : Int) ∧ ∃ i, i < l.length ∧ l.getD i node0 = x ∧ x.vars.headD 0 ∈ x.vars := by
  obtain ⟨i, hi, rfl⟩ := getD_idx (d := node0) hx
  have hm : (l.getD i node0).vars.headD 0 ∈ (l.getD i node0).vars := by
    cases hc : (l.getD i node0).vars with
    | nil => exact absurd hc (ok.vne i hi)
    | cons a t => simp
  have hr := ok.vrng i hi _ hm
  exact ⟨by omega, hr.2, i, hi, rfl, hm⟩
/-- What a stable sort by levels leaves is the document's order. -/
theorem stable_ord {l : List NodeD} {V : Nat} (ok : NodesOK l V) {lv : Int → Nat} (hl : ∀ v : Int, 0 ≤ v → v ≤ V → Lev l v (lv v)) {L : List NodeD} (hs : Srt (keyL lv) L) (hf : Flt (keyL lv) l L) :
    L = ordN l (fun v => (lv v : Int)) l.length := by
  have h1 : Srt (keyL lv) (ordN l (fun v => (lv v : Int)) l.length) := srt_ordN l (fun v => (lv v : Int)) _
  have h2 : Flt (keyL lv) l (ordN l (fun v => (lv v : Int)) l.length) := flt_ordN l (fun v => (lv v : Int)) _ fun x hx => by
    obtain ⟨h0, h1, i, hi, rfl, hm⟩ := head_lev ok hx
    have h := node_lev (o := fun v => ((lv v : Nat) : Int)) ok (fun v a b => ⟨by omega, by simpa using hl v a b⟩) hi hm (hl _ h0 h1)
    obtain ⟨a1, a2, a3⟩ := h
    omega
  exact srt_uniq hs h1 (hf.symm.trans h2)
section
variable {w0 W : World} {d : NetD} {V : Nat} {vi vl vo vb vc vm va : Value} {bw bo bm bl g cap n : Nat} {m9 lv9 : Int → Nat} {fp : Nat}
theorem ord_env (hl0 : lightN d = true) (hs : SoundD d V) (hn : n ≤ 1000000) : SEnv ⟨fp, 0, none⟩ (keyL lv9) g n (OrdS w0 d V vi vl vo vb vc vm va bw bo bm bl g cap n m9 lv9 fp) where
  len h := h.len
  c0 h i hi := (h.at_ hi).1
  c1 h i hi := (h.at_ hi).2.1
  c2 h i hi := (h.at_ hi).2.2
  fz h j := h.fz j
  swp h i j hi hj hij := (h.put (h.node hj)).put (h.node hi)
  drew h k := h.below (below_drewN (Below.refl _ _) k)
  cmp h i j hi hj := (ord_cmp h hl0 hs (h.node hi) (h.node hj)).mono fun e w' ⟨he, hb⟩ => ⟨_, he, cmpI_neg _ _, h.below hb⟩
  small := hn
end
def NilQ (w : World) (e : Ending) (w' : World) : Prop := e = .returned (.tuple #[]) ∧ w = w'
theorem ins_nil (f : Value) (w : World) : Calls Try.prog 51 #[.slice none 0 0, .int .i64 0, .int .i64 0, f] w (NilQ w) := by
  go_enter Try.func51, Try.ntmps51
  go_wp2
  go_loopw [8, 9] (fun i _ wr => i = .int .i64 1 ∧ w = wr) (fun _ _ _ => 0)
  case atStart => exact ⟨rfl, rfl⟩
  case round =>
    obtain ⟨rfl, rfl⟩ := hrel
    go_wp2
    go_returns
    exact ⟨rfl, rfl⟩
theorem stable_nil (f : Value) (w : World) : Calls Try.prog 39 #[.slice none 0 0, .int .i64 0, f] w (NilQ w) := by
  go_enter Try.func39, Try.ntmps39
  go_wp2
  go_loopw [7, 8] (fun a b wr => a = .int .i64 0 ∧ b = .int .i64 20 ∧ w = wr) (fun _ _ _ => 0)
  case atStart => exact ⟨rfl, rfl, rfl⟩
  case round =>
    obtain ⟨rfl, rfl, rfl⟩ := hrel
    go_wp2_with fail
    refine (ins_nil _ _).mono ?_
    rintro e w' ⟨rfl, rfl⟩
    go_wp2
    go_loopw [6] (fun a wr => a = .int .i64 20 ∧ w = wr) (fun _ _ => 0)
    case atStart => exact ⟨rfl, rfl⟩
    case round =>
      obtain ⟨rfl, rfl⟩ := hrel
      go_wp2
      go_returns
      exact ⟨rfl, rfl⟩
theorem sort_nil (f : Value) (w : World) : Calls Try.prog 28 #[.slice none 0 0, f] w (NilQ w) := by
  go_enter Try.func28, Try.ntmps28
  go_wp2_with fail
  refine (stable_nil _ _).mono ?_
  rintro e w' ⟨rfl, rfl⟩
  go_wp2
  go_returns
  exact ⟨rfl, rfl⟩
theorem sort_ {fp : Addr} {key : NodeD → Int} {g n : Nat} {S : List NodeD → World → Prop} (E : SEnv fp key g n S) {W : World} {L : List NodeD} (h : S L W) (cap : Nat) :
    Calls Try.prog 28 #[.slice (some ⟨g, 0, none⟩) n cap, .func (.func 29) #[] #[.pointer (some fp)]] W (StQ key S L) := by
  have HC := Lib.hid (stable_ E h cap)
  clear h E
  go_enter Try.func28, Try.ntmps28
  go_wp2_with fail
  refine HC.out.mono ?_
  rintro e w' ⟨rfl, hh⟩
  have HF : Hid (StQ key S L (.returned (.tuple #[])) w') := Lib.hid ⟨rfl, hh⟩
  clear hh
  go_wp2
  go_returns
  exact HF.out
/-- Nodes in memory, as the walker has them. -/
def TNodes (w w' : World) (v : Value) (ls : List NodeD) : Prop := Row w' 44 3 v ls.length (ls.flatMap nodeC) ∧ ∀ k, v.ownBlock = some k → w.heap.size ≤ k
/-- What Order tells. -/
def OrdT (w : World) (d : NetD) (e : Ending) (w' : World) : Prop :=
  Below w.heap.size w w' ∧
  ((checkN d ≠ 0 ∧ e = .returned (.tuple #[.slice none 0 0, .bool false])) ∨
   (checkN d = 0 ∧ ∃ V, SoundD d V ∧ ∃ lv : Int → Nat, ∃ v, e = .returned (.tuple #[v, .bool true]) ∧ (∀ v : Int, 0 ≤ v → v ≤ V → Lev (nodesN d) v (lv v)) ∧ TNodes w w' v (ordN (nodesN d) (fun v => (lv v : Int)) (nodesN d).length)))
set_option maxHeartbeats 4000000 in
theorem topo_Order {w : World} {d : NetD} {vi vl vo vb vc vm va : Value} (h : NetP w d vi vl vo vb vc vm va) (hl0 : lightN d = true) :
    Calls Try.prog 16 #[netV d vi vl vo vb vc vm va] w (OrdT w d) := by
  obtain ⟨ai, ci, ni, al, cl, nl, ao, co, no, ab, cb, nb, ac, cc, nc, am, cm, nm, aa, ca, na, rfl, rfl, rfl, rfl, rfl, rfl, rfl, -, -⟩ := h.open_ (lightN_iff hl0).1
  have ht := topo_told (h.below (below_new1 w (.cells #[.int .i64 d.vars, .slice ai ni ci, .slice al nl cl, .slice ao no co, .slice ab nb cb, .slice ac nc cc, .slice am nm cm, .slice aa na ca] 27))) hl0
  unfold netV at ht ⊢
  have HT := Lib.hid ht
  have HL0 := Lib.hid hl0
  clear h hl0 ht
  go_enter Try.func16, Try.ntmps16
  go_wp2_with fail
  refine HT.out.mono ?_
  rintro e w2 hq
  obtain ⟨p, hp⟩ := hq.code
  have HB := Lib.hid ((below_new1 w _).trans (hq.1.mono (by simp)))
  by_cases hc0 : checkN d = 0
  · obtain ⟨-, ⟨h1, rfl⟩ | ⟨h0, V, hs, ⟨hn, rfl⟩ | ⟨bw, bo, bm, bl, nv, m, lv, rfl, hl, hk⟩⟩⟩ := hq
    · rw [checkN_bad h1] at hc0; exact absurd hc0 h1
    · rw [checkN_no h0 hs hn] at hc0; cases hc0
    · have HS := Lib.hid hs
      have HLV := Lib.hid hl
      have HK := Lib.hid hk
      have HC0 := Lib.hid hc0
      have HNL := Lib.hid (nodes_len hs)
      obtain ⟨W3, hW3⟩ : ∃ W3, W3 = w2.alloc (.cells #[.pointer (some ⟨bw, 0, none⟩)] 61) := ⟨_, rfl⟩
      have hB3 : Below w2.heap.size w2 W3 := by rw [hW3]; exact below_new1 _ _
      have c9 := (hk.below hB3).c.2.1
      rw [hW3] at c9
      have hfr := hk.far
      have hlow := hk.low
      rcases hk.row.form with ⟨rfl, hn0, -⟩ | ⟨g, cap, rfl, -, -, hg, -⟩
      · have HF : Hid (OrdT w d (.returned (.tuple #[.slice none 0 0, .bool true])) W3) := Lib.hid ⟨HB.out.trans (hB3.mono HB.out.size), .inr ⟨HC0.out, V, HS.out, lv, _, rfl, HLV.out, by
          have : nodesN d = [] := List.eq_nil_of_length_eq_zero hn0
          rw [this]
          exact ⟨World.ownsRow_nil _ _ _ _, fun k hk => by simp [Value.ownBlock] at hk⟩⟩⟩
        rw [hW3] at HF
        clear hs hl hk hc0 hp h0 hW3 hB3 hfr hlow hn0
        go_wp2_with fail
        refine (sort_nil _ _).mono ?_
        rintro e w' ⟨rfl, rfl⟩
        go_wp2
        go_ret2
        exact HF.out
      · have hO : OrdS _ d V _ _ _ _ _ _ _ bw bo bm bl g cap (nodesN d).length m lv w2.heap.size (nodesN d) W3 := ⟨hk.below hB3, rfl, fun x hx => hx, by rw [hW3]; exact Blk.new _ _ _, by omega⟩
        have hso := sort_ (ord_env HL0.out hs (by have := HNL.out; omega)) hO cap
        rw [hW3] at hso
        have HSO := Lib.hid hso
        obtain ⟨n, hn⟩ : ∃ n, n = (nodesN d).length := ⟨_, rfl⟩
        have HN := Lib.hid hn
        rw [← hn] at HSO c9
        have HFR : Hid (w.heap.size ≤ g) := Lib.hid (by have := (hfr g rfl).1; simp at this; omega)
        clear hs hl hk hc0 hp h0 hB3 hfr hlow hso hO hn hg HK
        go_wp2_with fail
        refine HSO.out.mono ?_
        rintro e w4 ⟨rfl, L, hO4, hsr, hfl⟩
        have d9 := hO4.wk.c.2.1
        have d0 : w4.cell? ⟨w2.heap.size, 0, none⟩ = some (.pointer (some ⟨bw, 0, none⟩)) := hO4.ptr.cell 0
        have hB4 := hO4.wk.low
        have HF : Hid (OrdT w d (.returned (.tuple #[.slice (some ⟨g, 0, none⟩) n cap, .bool true])) w4) := Lib.hid ⟨(below_new1 w _).trans (hB4.mono (by simp)), .inr ⟨HC0.out, V, HS.out, lv, _, rfl, HLV.out, by
          rw [← stable_ord HS.out.nodes HLV.out hsr hfl]
          refine ⟨?_, fun k hk => by injection hk with hk; rw [← hk]; exact HFR.out⟩
          exact hO4.wk.row⟩⟩
        clear hO4 hsr hfl hB4
        go_wp2
        go_ret2
        exact HF.out
  · have HF : Hid (OrdT w d (.returned (.tuple #[.slice none 0 0, .bool false])) (w2.alloc (.cells #[.pointer p] 61))) := Lib.hid ⟨HB.out.trans ((below_new1 _ _).mono HB.out.size), .inl ⟨hc0, rfl⟩⟩
    subst hp
    obtain ⟨c, hc⟩ : ∃ c, c = checkN d := ⟨_, rfl⟩
    rw [← hc] at hc0 ⊢
    have hb : (c != 0) = true := by rw [bne_iff_ne]; exact hc0
    clear hq hc hc0
    go_wp2
    go_ret2
    exact HF.out
end Go.Proofs.Ytgnimegdgphlmaa
