/-
  The reference's Sort, walked.
-/
import Derived.Test.YtpophiiejmhniaaSortL
import Derived.Test.YtpophiiejmhniaaApp
import Derived.Test.YtpophiiejmhniaaInts
import Derived.Deep.RegionHeld3
import Derived.Deep.DrawnRows
namespace Go.Proofs.Ytpophiiejmhniaa
open Go.ChangeShapes Go.WideShapes Go.ChangeAt Go.RowKit
set_option linter.unusedVariables false
attribute [local go_sem ↓] Go.wp_at_zero Go.wp_at_succ
/-- A list of numbers of the call's own (the call began at w). -/
def OwnI (w wr : World) (out : Value) (xs : List Int) : Prop := Row wr 3 1 out xs.length (xs.map iv) ∧ Below w.heap.size w wr ∧ ∀ g, out.ownBlock = some g → w.heap.size ≤ g
theorem OwnI.start (w : World) : OwnI w w (.slice none 0 0) [] := ⟨World.ownsRow_nil _ _ _ _, Below.refl _ _, fun k hk => by simp [Value.ownBlock] at hk⟩
theorem OwnI.new {w wr : World} {g : Nat} (h : wr.heap[g]? = some (.cells #[] 3 (0, 0))) (hb : Below w.heap.size w wr) (hg : w.heap.size ≤ g) : OwnI w wr (.slice (some ⟨g, 0, none⟩) 0 0) [] :=
  ⟨⟨by simp, .inr ⟨g, 0, #[], rfl, Nat.zero_le _, h, Nat.le_refl _, by simp, by simp, by simp⟩⟩, hb, fun k hk => by simp [Value.ownBlock] at hk; omega⟩
theorem OwnI.below {w wr wx : World} {out : Value} {xs : List Int} (h : OwnI w wr out xs) (hb : Below wr.heap.size wr wx) : OwnI w wx out xs :=
  ⟨h.1.chg (S := fun _ => False) (Chg.of_below hb) (fun _ _ h => h), h.2.1.trans (hb.mono h.2.1.size), h.2.2⟩
theorem OwnI.from_ {w wr wx : World} {out : Value} {xs : List Int} (h : OwnI wr wx out xs) (hb : Below w.heap.size w wr) : OwnI w wx out xs :=
  ⟨h.1, hb.trans (h.2.1.mono hb.size), fun g hg => Nat.le_trans hb.size (h.2.2 g hg)⟩
theorem OwnI.ints {w wr : World} {out : Value} {xs : List Int} (h : OwnI w wr out xs) : Ints wr out xs := h.1.ints
theorem OwnI.app {w wr w' : World} {v v' : Value} {xs ys : List Int} (h : OwnI w wr v xs) (hp : AppPost wr 3 1 v (xs.length + ys.length) (xs.map iv ++ ys.map iv) v' w') : OwnI w w' v' (xs ++ ys) := by
  obtain ⟨p1, p2, p3⟩ := hp
  refine ⟨by rw [List.length_append, List.map_append]; exact p1, h.2.1.trans (p2.below h.2.1.size (fun i hi => h.2.2 i hi)), fun g hg => ?_⟩
  rcases p3 with e | e
  · rw [e] at hg; exact h.2.2 g hg
  · rw [e] at hg; simp at hg; have := h.2.1.size; omega
theorem one_iv {ys : List Int} : ∀ u ∈ ys.map iv, u.oneCell' = true := by
  intro u hu
  simp at hu
  obtain ⟨x, -, rfl⟩ := hu
  rfl
theorem step_I {w wr : World} {ops : Array Oper} {o : Oper} {a : Act} {K : Act → World → Prop} {Q : Exit → Act → World → Prop} {E : Prop} (hgd : o.guard = none) (s x : Operand)
    (ho : o.op = .call { callee := .builtin .append, args := #[s, x], argTypes := #[28, 28] })
    (v : Value) (xs : List Int) (hs : a.eval s = v) (A : Option Addr) (m c : Nat) (ys : List Int) (hx : a.eval x = .slice A m c) (hm : ys.length = m) (hl : xs.length + m ≤ 1099511627776)
    (hown : OwnI w wr v xs) (hsrc : Src wr A 1 m (ys.map iv))
    (h : ∀ v' w', OwnI w w' v' (xs ++ ys) → Chg (fun k => v.ownBlock = some k) wr w' → K (a.put o.dst v') w') :
    if Region.wanted o (yielded ops a.tmps) = true then Oper.wp Try.prog o a wr K Q else E := by
  subst hm
  exact step_appS hgd s x 28 ho 3 (.int .i64 0) 1 8 Try.underlying28 infoI rfl (by decide) v xs.length (xs.map iv) hs hown.1 A _ c (ys.map iv) hx hsrc one_iv (by unfold maxLen; omega) (by omega)
    fun v' w' hp => h v' w' (hown.app hp) hp.2.1
theorem wpList_I {w wr : World} {ops : Array Oper} {rest : List Oper} {o : Oper} {a : Act} {Q : Exit → Act → World → Prop} (hgd : o.guard = none) (s x : Operand)
    (ho : o.op = .call { callee := .builtin .append, args := #[s, x], argTypes := #[28, 28] })
    (v : Value) (xs : List Int) (hs : a.eval s = v) (A : Option Addr) (m c : Nat) (ys : List Int) (hx : a.eval x = .slice A m c) (hm : ys.length = m) (hl : xs.length + m ≤ 1099511627776)
    (hown : OwnI w wr v xs) (hsrc : Src wr A 1 m (ys.map iv))
    (h : ∀ v' w', OwnI w w' v' (xs ++ ys) → wpList Try.prog ops Q rest (a.put o.dst v') w') : wpList Try.prog ops Q (o :: rest) a wr := by
  subst hm
  exact wpList_appS hgd s x 28 ho 3 (.int .i64 0) 1 8 Try.underlying28 infoI rfl (by decide) v xs.length (xs.map iv) hs hown.1 A _ c (ys.map iv) hx hsrc one_iv (by unfold maxLen; omega) (by omega)
    fun v' w' hp => h v' w' (hown.app hp)
/-- Where the cells of what is read lie, in whatever world behind. -/
theorem ints_cells {w : World} {a : Option Addr} {l : List Int} (hv : l = [] ∨ ∃ b off, a = some ⟨b, off, none⟩ ∧ ∀ j, j < l.length → w.cell? ⟨b, off + j, none⟩ = some (.int .i64 (l.getD j 0))) {j : Nat} (hj : j < l.length) :
    ∃ b off, a = some ⟨b, off, none⟩ ∧ ∀ wr, Below w.heap.size w wr → wr.cell? ⟨b, off + j, none⟩ = some (.int .i64 (l.getD j 0)) := by
  have hne : l ≠ [] := fun e => by rw [e] at hj; simp at hj
  obtain ⟨b, off, h1, h2⟩ := hv.resolve_left hne
  refine ⟨b, off, h1, fun wr hwr => ?_⟩
  have h3 := h2 j hj
  have hlt := World.block_lt_of_cell? w _ h3
  rw [World.cell?_of_block (w := w) (hwr.block b hlt)]; exact h3
theorem Row.cellI {w : World} {e : TypeId} {A : Option Addr} {n cap : Nat} {xs : List Int} (h : Row w e 1 (.slice A n cap) xs.length (xs.map iv)) (hn : n = xs.length) {k : Nat} (hk : k < n) : ∃ g, A = some ⟨g, 0, none⟩ ∧ w.cell? ⟨g, k, none⟩ = some (.int .i64 (xs.getD k 0)) ∧ w.frozen? ⟨g, k, none⟩ = false := by
  subst hn
  rcases h.form with ⟨-, h0, -⟩ | ⟨g, cap', h', -, -, -, hc⟩
  · omega
  · injection h' with e1 e2 e3
    obtain ⟨c1, c2⟩ := hc k (by simpa using hk)
    exact ⟨g, e1, by rw [c1]; simp [List.getD, hk, iv], c2⟩
theorem OwnI.form {w wr : World} {out : Value} {xs : List Int} (h : OwnI w wr out xs) : ∃ A cap, out = .slice A xs.length cap ∧ xs.length ≤ cap ∧ cap ≤ maxLen := by
  rcases h.1.form with ⟨rfl, h0, -⟩ | ⟨g, cap, rfl, h1, h2, -, -⟩
  · exact ⟨none, 0, by rw [h0], by omega, by simp⟩
  · exact ⟨_, cap, rfl, h1, h2⟩
theorem heap_new1 (w : World) (a : Obj) : (w.alloc a).heap[w.heap.size]? = some a := heap_alloc_new w a
theorem heap_new2 (w : World) (a b : Obj) : ((w.alloc a).alloc b).heap[w.heap.size + 1]? = some b := by
  have := heap_alloc_new (w.alloc a) b
  simpa using this
theorem heap_new3 (w : World) (a b : Obj) : ((w.alloc a).alloc b).heap[w.heap.size]? = some a := (Below.heap_alloc (w.alloc a) b w.heap.size (by simp)).trans (heap_alloc_new w a)
theorem below_new1 (w : World) (a : Obj) : Below w.heap.size w (w.alloc a) := (Below.refl _ _).alloc (Nat.le_refl _) _
theorem below_new2 (w : World) (a b : Obj) : Below w.heap.size w ((w.alloc a).alloc b) := ((Below.refl _ _).alloc (Nat.le_refl _) _).alloc (by simp) _
theorem below_d1 (w : World) (k : Nat) (a : Obj) : Below w.heap.size w ((w.drewN k).alloc a) := (below_drewN (Below.refl _ _) k).alloc (Nat.le_refl _) _
theorem below_d2 (w : World) (k : Nat) (a b : Obj) : Below w.heap.size w (((w.drewN k).alloc a).alloc b) := ((below_drewN (Below.refl _ _) k).alloc (Nat.le_refl _) _).alloc (by simp) _
/-- Between rounds. -/
def SortRel (l : List Int) (k : Nat) (w wr : World) (out : Value) : Prop := OwnI w wr out (sortR (l.take k))
theorem take_snocI {l : List Int} {k : Nat} (h : k < l.length) : l.take (k + 1) = l.take k ++ [l.getD k 0] := by
  rw [List.take_add_one, List.getElem?_eq_getElem h]
  simp [List.getD, h]
set_option maxHeartbeats 2000000 in
set_option maxRecDepth 100000 in
theorem r01_Sort {w : World} {v : Value} {l : List Int} (h : Ints w v l) (hs : l.length ≤ 1000000) :
    Calls Try.prog 24 #[v] w fun e w' => ∃ u, e = .returned u ∧ OwnI w w' u (sortR l) := by
  obtain ⟨a, cap, rfl, -, hc1, hc2, hv⟩ := h
  obtain ⟨n, hn⟩ : ∃ n, n = l.length := ⟨_, rfl⟩
  rw [← hn] at hc1 hs ⊢
  have HN := Lib.hid hn
  have HV := Lib.hid hv
  clear hv hn hc1 hc2
  go_enter Try.func24, Try.ntmps24
  go_wp2
  go_loopw [3, 4, 5] (fun out i _ wr => ∃ k : Nat, k ≤ n ∧ i = .int .i64 k ∧ SortRel l k w wr out) (fun _ i _ _ => n - (intOf i).toNat)
  case atStart => exact ⟨0, Nat.zero_le _, rfl, OwnI.start w⟩
  case round =>
    obtain ⟨k, hk, rfl, hrel⟩ := hrel
    by_cases hlt : (k : Int) < (n : Int)
    · have hkn : k < l.length := by have := HN.out; omega
      obtain ⟨b, off, rfl, hcell⟩ := ints_cells HV.out hkn
      obtain ⟨x, hx⟩ : ∃ x, x = l.getD k 0 := ⟨_, rfl⟩
      obtain ⟨xs, hxs⟩ : ∃ xs, xs = sortR (l.take k) := ⟨_, rfl⟩
      have hnext : sortR (l.take (k + 1)) = insR xs x := by rw [take_snocI hkn, sortR_snoc, ← hx, ← hxs]
      have hlen : xs.length ≤ k := by rw [hxs]; have := length_sortR (l.take k); rw [List.length_take] at this; omega
      unfold SortRel at hrel
      rw [← hxs] at hrel
      rw [← hx] at hcell
      obtain ⟨A, cap2, rfl, hcp1, hcp2⟩ := hrel.form
      obtain ⟨m, hm⟩ : ∃ m, m = xs.length := ⟨_, rfl⟩
      rw [← hm] at hlen hcp1 hrel ⊢
      have q1 := hcell wr hrel.2.1
      have HC := Lib.hid hcell
      have HO := Lib.hid hrel
      have HX := Lib.hid hnext
      have HM := Lib.hid hm
      have hm9 : m ≤ 9223372036854775807 := by omega
      clear hcell hrel hx hxs hnext hm hkn
      go_wp2
      go_loopw [5] (fun t ws => ∃ j : Nat, j ≤ kOf xs x ∧ t = .int .i64 j ∧ ∃ nq, ws = wr.drewN nq) (fun t _ => m - (intOf t).toNat)
      case atStart => exact ⟨0, Nat.zero_le _, rfl, 0, rfl⟩
      case round =>
        obtain ⟨j, hj, rfl, nq, rfl⟩ := hrel
        by_cases hjk : j < kOf xs x
        · have hjm : j < m := by have := kOf_le x xs; have := HM.out; omega
          have hlt2 := kOf_lt x xs j hjk
          obtain ⟨g, rfl, q2, -⟩ := HO.out.1.cellI HM.out hjm
          obtain ⟨y, hy⟩ : ∃ y, y = xs.getD j 0 := ⟨_, rfl⟩
          rw [← hy] at q2 hlt2
          have HY := Lib.hid hy
          have c1 : decide ((j : Int) < (m : Int)) = true := decide_eq_true (by omega)
          have c2 : decide (y < x) = true := decide_eq_true hlt2
          have i1 : (0 : Int) ≤ (j : Int) := by omega
          have i2 : (j : Int) < (m : Int) := by omega
          have i3 : (0 : Int) ≤ (k : Int) := by omega
          clear hy
          go_wp2
          go_quiet (fail)
          go_wp2
          go_roundw
          case rel => exact ⟨j + 1, by omega, by go_num, _, rfl⟩
          case measure => simp [intOf]; omega
        · have hjk' : j = kOf xs x := by omega
          have i3 : (0 : Int) ≤ (k : Int) := by omega
          by_cases hjm : j < m
          · have hle := kOf_at x xs (by rw [← hjk']; have := HM.out; omega)
            rw [← hjk'] at hle
            have HE : Hid (xs.getD j 0 = x → insR xs x = xs) := Lib.hid fun e => insR_has x xs (by rw [← hjk']; have := HM.out; omega) (by rw [← hjk']; exact e)
            have HI : Hid (xs.getD j 0 ≠ x → insR xs x = xs.take j ++ [x] ++ xs.drop j) := Lib.hid fun e => by rw [hjk'] at e ⊢; exact insR_new x xs (.inr e)
            obtain ⟨g, hA, q2, -⟩ := HO.out.1.cellI HM.out hjm
            obtain ⟨y, hy⟩ : ∃ y, y = xs.getD j 0 := ⟨_, rfl⟩
            rw [← hy] at q2 hle HE HI
            have c1 : decide ((j : Int) < (m : Int)) = true := decide_eq_true (by omega)
            have c2 : decide (y < x) = false := decide_eq_false (by omega)
            have c3 : ((j : Int) == (m : Int)) = false := by rw [beq_eq_false_iff_ne]; omega
            have i1 : (0 : Int) ≤ (j : Int) := by omega
            have i2 : (j : Int) < (m : Int) := by omega
            clear hy hjk hjk'
            by_cases he : y = x
            · have c4 : (y != x) = false := by rw [he]; simp
              have HE2 := Lib.hid (HE.out he)
              clear he HE HI
              subst hA
              go_wp2
              go_quiet (fail)
              go_wp2
              go_quiet (fail)
              go_wp2
              go_roundw
              case rel => exact ⟨k + 1, by omega, by go_num, by unfold SortRel; rw [HX.out, HE2.out]; exact HO.out.below (below_drewN (Below.refl _ _) _)⟩
              case measure => simp [intOf]; omega
            · have c4 : (y != x) = true := by rw [bne_iff_ne]; exact he
              have HI2 := Lib.hid (HI.out he)
              clear he HE HI
              subst hA
              go_wp2
              go_quiet (fail)
              go_wp2
              go_quiet (fail)
              go_wp2
              have SR : Hid (Src wr (some ⟨g, 0, none⟩) 1 m (xs.map iv)) := Lib.hid (by rw [HM.out]; exact HO.out.1.src)
              have HJ : Hid (((xs.take j)).length = j) := Lib.hid (by first | rfl | (rw [List.length_take]; have := HM.out; omega))
              have HD : Hid (((xs.drop j)).length = m - j) := Lib.hid (by first | rfl | (rw [List.length_drop]; have := HM.out; omega))
              have S1 : Hid (∀ (W : World), Below wr.heap.size wr W → Src W (some ⟨g, 0, none⟩) 1 j (((xs.take j)).map iv)) := Lib.hid fun W hW => by first | exact Src.nil _ _ _ | (rw [List.map_take]; exact (SR.out.take (by omega)).below hW)
              have S3 : Hid (∀ (W : World), Below wr.heap.size wr W → Src W (some ⟨g, j, none⟩) 1 (m - j) (((xs.drop j)).map iv)) := Lib.hid fun W hW => by first | exact Src.nil _ _ _ | (rw [List.map_drop]; exact (SR.out.drop (by omega) (fun _ => by first | (simp [Addr.add]; done) | (exfalso; omega))).below hW)
              have HCQ : Hid (∀ W, Below wr.heap.size wr W → W.cell? ⟨b, off + k, none⟩ = some (.int .i64 x)) := Lib.hid fun W hW => HC.out W (HO.out.2.1.trans (hW.mono HO.out.2.1.size))
              have b1 : (j : Int) ≤ (m : Int) := by omega
              have b2 : (m : Int) ≤ (cap2 : Int) := by omega
              have b3 : (0 : Int) ≤ (j : Int) := by omega
              have b4 : (j : Int) ≤ (cap2 : Int) := by omega
              have b5 : j ≤ cap2 := by omega
              go_region_held3 (fun w' => w'.cell? ⟨b, off + k, none⟩ = some (.int .i64 x)) (go_keep) (first
                | (refine step_I (w := wr) rfl (.tmp 44) (.tmp 47) rfl (.slice (some ⟨wr.heap.size, 0, none⟩) 0 0) [] (by simp [Act.eval]) (some ⟨g, 0, none⟩) j cap2 (xs.take j) (by simp [Act.eval]) HJ.out ?_ ?_ ?_ ?_; (rw [List.length_nil]; omega); (first | exact OwnI.new (heap_new1 (wr.drewN _) _) (below_d1 _ _ _) (Nat.le_refl _) | exact OwnI.new (heap_new3 (wr.drewN _) _ _) (below_d2 _ _ _ _) (Nat.le_refl _)); (first | exact S1.out _ (below_d1 _ _ _) | exact S1.out _ (below_d2 _ _ _ _)); intro v1 w1 h1 hc1; have e1 := HCQ.out w1 h1.2.1; have H1 := Lib.hid h1; have K1 := Lib.hid hc1; clear h1 hc1)
                | (refine step_I (w := wr) rfl (.tmp 44) (.tmp 47) rfl (.slice (some ⟨wr.heap.size + 1, 0, none⟩) 0 0) [] (by simp [Act.eval]) (some ⟨g, 0, none⟩) j cap2 (xs.take j) (by simp [Act.eval]) HJ.out ?_ ?_ ?_ ?_; (rw [List.length_nil]; omega); (exact OwnI.new (heap_new2 (wr.drewN _) _ _) (below_d2 _ _ _ _) (by omega)); (exact S1.out _ (below_d2 _ _ _ _)); intro v1 w1 h1 hc1; have e1 := HCQ.out w1 h1.2.1; have H1 := Lib.hid h1; have K1 := Lib.hid hc1; clear h1 hc1)
                | (refine step_I (w := wr) rfl (.tmp 48) (.tmp 53) rfl v1 (xs.take j) (by simp [Act.eval]) (some ⟨w1.heap.size, 0, none⟩) 1 1 [x] (by simp [Act.eval]) rfl ?_ ?_ ?_ ?_; (rw [HJ.out]; omega); (exact H1.out.below (below_new1 _ _)); (exact Src.one (heap_new1 _ _)); intro v2 w2 h2 hc2; have e2 := HCQ.out w2 h2.2.1; have H2 := Lib.hid h2; have K2 := Lib.hid hc2; clear h2 hc2)
                | (refine step_I (w := wr) rfl (.tmp 48) (.tmp 53) rfl v1 (xs.take j) (by simp [Act.eval]) (some ⟨wr.heap.size, 0, none⟩) 1 1 [x] (by simp [Act.eval]) rfl ?_ ?_ ?_ ?_; (rw [HJ.out]; omega); (exact H1.out); (exact Src.one (K1.out.at_ (heap_new3 (wr.drewN _) _ _) (by simp [Value.ownBlock]))); intro v2 w2 h2 hc2; have e2 := HCQ.out w2 h2.2.1; have H2 := Lib.hid h2; have K2 := Lib.hid hc2; clear h2 hc2)
                | (refine step_I (w := wr) rfl (.tmp 48) (.tmp 53) rfl v1 (xs.take j) (by simp [Act.eval]) (some ⟨(wr.heap.size + 1), 0, none⟩) 1 1 [x] (by simp [Act.eval]) rfl ?_ ?_ ?_ ?_; (rw [HJ.out]; omega); (exact H1.out); (exact Src.one (K1.out.at_ (heap_new2 (wr.drewN _) _ _) (by simp [Value.ownBlock]))); intro v2 w2 h2 hc2; have e2 := HCQ.out w2 h2.2.1; have H2 := Lib.hid h2; have K2 := Lib.hid hc2; clear h2 hc2)
                | (refine step_I (w := wr) rfl (.tmp 54) (.tmp 57) rfl v2 ((xs.take j) ++ [x]) (by simp [Act.eval]) (some ⟨g, j, none⟩) (m - j) (cap2 - j) (xs.drop j) (by simp [Act.eval]; omega) HD.out ?_ ?_ ?_ ?_; (first | (rw [List.length_append, HJ.out]; simp; omega) | simp); (exact H2.out); (exact S3.out _ H2.out.2.1); intro v3 w3 h3 hc3; have e3 := HCQ.out w3 h3.2.1; have H3 := Lib.hid h3; have K3 := Lib.hid hc3; clear h3 hc3))
              all_goals
                go_wp2
                go_roundw
                case rel => exact ⟨k + 1, by omega, by go_num, by unfold SortRel; rw [HX.out, HI2.out]; exact H3.out.from_ HO.out.2.1⟩
                case measure => simp [intOf]; omega
          · have hjm' : j = m := by have := kOf_le x xs; have := HM.out; omega
            have HI2 : Hid (insR xs x = xs.take j ++ [x] ++ xs.drop j) := Lib.hid (by have := insR_new x xs (.inl (by rw [← hjk', hjm']; exact HM.out)); rw [← hjk'] at this; exact this)
            have c1 : decide ((j : Int) < (m : Int)) = false := decide_eq_false (by omega)
            have c3 : ((j : Int) == (m : Int)) = true := by rw [beq_iff_eq]; omega
            have i1 : (0 : Int) ≤ (j : Int) := by omega
            have HJK := Lib.hid hjk'
            have HJM := Lib.hid hjm'
            clear hjk hjk' hjm'
            rcases HO.out.1.form with ⟨hnil, h0, -⟩ | ⟨g, cap', hA, -, -, -, -⟩
            · injection hnil with e1 e2 e3
              subst e1 e2 e3
              obtain rfl : xs = [] := List.eq_nil_of_length_eq_zero HM.out.symm
              obtain rfl : j = 0 := HJM.out
              go_wp2
              go_quiet (fail)
              go_wp2
              go_quiet (fail)
              go_wp2
              have HJ : Hid ((([] : List Int)).length = 0) := Lib.hid (by first | rfl | (rw [List.length_take]; have := HM.out; omega))
              have HD : Hid ((([] : List Int)).length = 0 - 0) := Lib.hid (by first | rfl | (rw [List.length_drop]; have := HM.out; omega))
              have S1 : Hid (∀ (W : World), Below wr.heap.size wr W → Src W none 1 0 ((([] : List Int)).map iv)) := Lib.hid fun W hW => by first | exact Src.nil _ _ _ | (rw [List.map_take]; exact (SR.out.take (by omega)).below hW)
              have S3 : Hid (∀ (W : World), Below wr.heap.size wr W → Src W none 1 (0 - 0) ((([] : List Int)).map iv)) := Lib.hid fun W hW => by first | exact Src.nil _ _ _ | (rw [List.map_drop]; exact (SR.out.drop (by omega) (fun _ => by first | (simp [Addr.add]; done) | (exfalso; omega))).below hW)
              have HCQ : Hid (∀ W, Below wr.heap.size wr W → W.cell? ⟨b, off + k, none⟩ = some (.int .i64 x)) := Lib.hid fun W hW => HC.out W (HO.out.2.1.trans (hW.mono HO.out.2.1.size))
              have b1 : (0 : Int) ≤ (0 : Int) := by omega
              have b2 : (0 : Int) ≤ (0 : Int) := by omega
              have b3 : (0 : Int) ≤ (0 : Int) := by omega
              have b4 : (0 : Int) ≤ (0 : Int) := by omega
              have b5 : 0 ≤ 0 := by omega
              go_region_held3 (fun w' => w'.cell? ⟨b, off + k, none⟩ = some (.int .i64 x)) (go_keep) (first
                | (refine step_I (w := wr) rfl (.tmp 44) (.tmp 47) rfl (.slice (some ⟨wr.heap.size, 0, none⟩) 0 0) [] (by simp [Act.eval]) none 0 0 ([] : List Int) (by simp [Act.eval]) HJ.out ?_ ?_ ?_ ?_; (rw [List.length_nil]; omega); (first | exact OwnI.new (heap_new1 (wr.drewN _) _) (below_d1 _ _ _) (Nat.le_refl _) | exact OwnI.new (heap_new3 (wr.drewN _) _ _) (below_d2 _ _ _ _) (Nat.le_refl _)); (first | exact S1.out _ (below_d1 _ _ _) | exact S1.out _ (below_d2 _ _ _ _)); intro v1 w1 h1 hc1; have e1 := HCQ.out w1 h1.2.1; have H1 := Lib.hid h1; have K1 := Lib.hid hc1; clear h1 hc1)
                | (refine step_I (w := wr) rfl (.tmp 44) (.tmp 47) rfl (.slice (some ⟨wr.heap.size + 1, 0, none⟩) 0 0) [] (by simp [Act.eval]) none 0 0 ([] : List Int) (by simp [Act.eval]) HJ.out ?_ ?_ ?_ ?_; (rw [List.length_nil]; omega); (exact OwnI.new (heap_new2 (wr.drewN _) _ _) (below_d2 _ _ _ _) (by omega)); (exact S1.out _ (below_d2 _ _ _ _)); intro v1 w1 h1 hc1; have e1 := HCQ.out w1 h1.2.1; have H1 := Lib.hid h1; have K1 := Lib.hid hc1; clear h1 hc1)
                | (refine step_I (w := wr) rfl (.tmp 48) (.tmp 53) rfl v1 ([] : List Int) (by simp [Act.eval]) (some ⟨w1.heap.size, 0, none⟩) 1 1 [x] (by simp [Act.eval]) rfl ?_ ?_ ?_ ?_; (rw [HJ.out]; omega); (exact H1.out.below (below_new1 _ _)); (exact Src.one (heap_new1 _ _)); intro v2 w2 h2 hc2; have e2 := HCQ.out w2 h2.2.1; have H2 := Lib.hid h2; have K2 := Lib.hid hc2; clear h2 hc2)
                | (refine step_I (w := wr) rfl (.tmp 48) (.tmp 53) rfl v1 ([] : List Int) (by simp [Act.eval]) (some ⟨wr.heap.size, 0, none⟩) 1 1 [x] (by simp [Act.eval]) rfl ?_ ?_ ?_ ?_; (rw [HJ.out]; omega); (exact H1.out); (exact Src.one (K1.out.at_ (heap_new3 (wr.drewN _) _ _) (by simp [Value.ownBlock]))); intro v2 w2 h2 hc2; have e2 := HCQ.out w2 h2.2.1; have H2 := Lib.hid h2; have K2 := Lib.hid hc2; clear h2 hc2)
                | (refine step_I (w := wr) rfl (.tmp 48) (.tmp 53) rfl v1 ([] : List Int) (by simp [Act.eval]) (some ⟨(wr.heap.size + 1), 0, none⟩) 1 1 [x] (by simp [Act.eval]) rfl ?_ ?_ ?_ ?_; (rw [HJ.out]; omega); (exact H1.out); (exact Src.one (K1.out.at_ (heap_new2 (wr.drewN _) _ _) (by simp [Value.ownBlock]))); intro v2 w2 h2 hc2; have e2 := HCQ.out w2 h2.2.1; have H2 := Lib.hid h2; have K2 := Lib.hid hc2; clear h2 hc2)
                | (refine step_I (w := wr) rfl (.tmp 54) (.tmp 57) rfl v2 (([] : List Int) ++ [x]) (by simp [Act.eval]) none 0 0 ([] : List Int) (by simp [Act.eval]) HD.out ?_ ?_ ?_ ?_; (first | (rw [List.length_append, HJ.out]; simp; omega) | simp); (exact H2.out); (exact S3.out _ H2.out.2.1); intro v3 w3 h3 hc3; have e3 := HCQ.out w3 h3.2.1; have H3 := Lib.hid h3; have K3 := Lib.hid hc3; clear h3 hc3))
              all_goals
                go_wp2
                go_roundw
                case rel => exact ⟨k + 1, by omega, by go_num, by unfold SortRel; rw [HX.out, HI2.out]; exact H3.out.from_ HO.out.2.1⟩
                case measure => simp [intOf]; omega
            · injection hA with e1 e2 e3
              subst e1
              clear e2 e3
              have HMC := Lib.hid hcp1
              by_cases hcm : cap2 = m
              · subst hcm
                have SR : Hid (Src wr (some ⟨g, 0, none⟩) 1 cap2 (xs.map iv)) := Lib.hid (by rw [HM.out]; exact HO.out.1.src)
                obtain rfl : j = cap2 := HJM.out
                have HI3 : Hid (insR xs x = xs.take j ++ [x] ++ []) := Lib.hid (by rw [HI2.out, List.drop_eq_nil_of_le (by have := HM.out; omega)])
                have HI2 := Lib.hid HI3.out
                go_wp2
                go_quiet (fail)
                go_wp2
                go_quiet (fail)
                go_wp2
                have HJ : Hid (((xs.take j)).length = j) := Lib.hid (by first | rfl | (rw [List.length_take]; have := HM.out; omega))
                have HD : Hid ((([] : List Int)).length = 0) := Lib.hid (by first | rfl | (rw [List.length_drop]; have := HM.out; omega))
                have S1 : Hid (∀ (W : World), Below wr.heap.size wr W → Src W (some ⟨g, 0, none⟩) 1 j (((xs.take j)).map iv)) := Lib.hid fun W hW => by first | exact Src.nil _ _ _ | (rw [List.map_take]; exact (SR.out.take (by omega)).below hW)
                have S3 : Hid (∀ (W : World), Below wr.heap.size wr W → Src W (some ⟨g, 0, none⟩) 1 0 ((([] : List Int)).map iv)) := Lib.hid fun W hW => by first | exact Src.nil _ _ _ | (rw [List.map_drop]; exact (SR.out.drop (by omega) (fun _ => by first | (simp [Addr.add]; done) | (exfalso; omega))).below hW)
                have HCQ : Hid (∀ W, Below wr.heap.size wr W → W.cell? ⟨b, off + k, none⟩ = some (.int .i64 x)) := Lib.hid fun W hW => HC.out W (HO.out.2.1.trans (hW.mono HO.out.2.1.size))
                have b1 : (j : Int) ≤ (j : Int) := by omega
                have b2 : (j : Int) ≤ (j : Int) := by omega
                have b3 : (0 : Int) ≤ (j : Int) := by omega
                have b4 : (j : Int) ≤ (j : Int) := by omega
                have b5 : j ≤ j := by omega
                go_region_held3 (fun w' => w'.cell? ⟨b, off + k, none⟩ = some (.int .i64 x)) (go_keep) (first
                | (refine step_I (w := wr) rfl (.tmp 44) (.tmp 47) rfl (.slice (some ⟨wr.heap.size, 0, none⟩) 0 0) [] (by simp [Act.eval]) (some ⟨g, 0, none⟩) j j (xs.take j) (by simp [Act.eval]) HJ.out ?_ ?_ ?_ ?_; (rw [List.length_nil]; omega); (first | exact OwnI.new (heap_new1 (wr.drewN _) _) (below_d1 _ _ _) (Nat.le_refl _) | exact OwnI.new (heap_new3 (wr.drewN _) _ _) (below_d2 _ _ _ _) (Nat.le_refl _)); (first | exact S1.out _ (below_d1 _ _ _) | exact S1.out _ (below_d2 _ _ _ _)); intro v1 w1 h1 hc1; have e1 := HCQ.out w1 h1.2.1; have H1 := Lib.hid h1; have K1 := Lib.hid hc1; clear h1 hc1)
                | (refine step_I (w := wr) rfl (.tmp 44) (.tmp 47) rfl (.slice (some ⟨wr.heap.size + 1, 0, none⟩) 0 0) [] (by simp [Act.eval]) (some ⟨g, 0, none⟩) j j (xs.take j) (by simp [Act.eval]) HJ.out ?_ ?_ ?_ ?_; (rw [List.length_nil]; omega); (exact OwnI.new (heap_new2 (wr.drewN _) _ _) (below_d2 _ _ _ _) (by omega)); (exact S1.out _ (below_d2 _ _ _ _)); intro v1 w1 h1 hc1; have e1 := HCQ.out w1 h1.2.1; have H1 := Lib.hid h1; have K1 := Lib.hid hc1; clear h1 hc1)
                | (refine step_I (w := wr) rfl (.tmp 48) (.tmp 53) rfl v1 (xs.take j) (by simp [Act.eval]) (some ⟨w1.heap.size, 0, none⟩) 1 1 [x] (by simp [Act.eval]) rfl ?_ ?_ ?_ ?_; (rw [HJ.out]; omega); (exact H1.out.below (below_new1 _ _)); (exact Src.one (heap_new1 _ _)); intro v2 w2 h2 hc2; have e2 := HCQ.out w2 h2.2.1; have H2 := Lib.hid h2; have K2 := Lib.hid hc2; clear h2 hc2)
                | (refine step_I (w := wr) rfl (.tmp 48) (.tmp 53) rfl v1 (xs.take j) (by simp [Act.eval]) (some ⟨wr.heap.size, 0, none⟩) 1 1 [x] (by simp [Act.eval]) rfl ?_ ?_ ?_ ?_; (rw [HJ.out]; omega); (exact H1.out); (exact Src.one (K1.out.at_ (heap_new3 (wr.drewN _) _ _) (by simp [Value.ownBlock]))); intro v2 w2 h2 hc2; have e2 := HCQ.out w2 h2.2.1; have H2 := Lib.hid h2; have K2 := Lib.hid hc2; clear h2 hc2)
                | (refine step_I (w := wr) rfl (.tmp 48) (.tmp 53) rfl v1 (xs.take j) (by simp [Act.eval]) (some ⟨(wr.heap.size + 1), 0, none⟩) 1 1 [x] (by simp [Act.eval]) rfl ?_ ?_ ?_ ?_; (rw [HJ.out]; omega); (exact H1.out); (exact Src.one (K1.out.at_ (heap_new2 (wr.drewN _) _ _) (by simp [Value.ownBlock]))); intro v2 w2 h2 hc2; have e2 := HCQ.out w2 h2.2.1; have H2 := Lib.hid h2; have K2 := Lib.hid hc2; clear h2 hc2)
                | (refine step_I (w := wr) rfl (.tmp 54) (.tmp 57) rfl v2 ((xs.take j) ++ [x]) (by simp [Act.eval]) (some ⟨g, 0, none⟩) 0 0 ([] : List Int) (by simp [Act.eval]) HD.out ?_ ?_ ?_ ?_; (first | (rw [List.length_append, HJ.out]; simp; omega) | simp); (exact H2.out); (exact S3.out _ H2.out.2.1); intro v3 w3 h3 hc3; have e3 := HCQ.out w3 h3.2.1; have H3 := Lib.hid h3; have K3 := Lib.hid hc3; clear h3 hc3))
                all_goals
                  go_wp2
                  go_roundw
                  case rel => exact ⟨k + 1, by omega, by go_num, by unfold SortRel; rw [HX.out, HI2.out]; exact H3.out.from_ HO.out.2.1⟩
                  case measure => simp [intOf]; omega
              · have SR : Hid (Src wr (some ⟨g, 0, none⟩) 1 m (xs.map iv)) := Lib.hid (by rw [HM.out]; exact HO.out.1.src)
                have hjm2 : j ≤ m := by have := HJM.out; omega
                have hne : ¬ cap2 = j := by have := HJM.out; omega
                have hne' : ¬ (cap2 : Int) = (j : Int) := by omega
                go_wp2
                go_quiet (fail)
                go_wp2
                go_quiet (fail)
                go_wp2
                have HJ : Hid (((xs.take j)).length = j) := Lib.hid (by first | rfl | (rw [List.length_take]; have := HM.out; omega))
                have HD : Hid (((xs.drop j)).length = m - j) := Lib.hid (by first | rfl | (rw [List.length_drop]; have := HM.out; omega))
                have S1 : Hid (∀ (W : World), Below wr.heap.size wr W → Src W (some ⟨g, 0, none⟩) 1 j (((xs.take j)).map iv)) := Lib.hid fun W hW => by first | exact Src.nil _ _ _ | (rw [List.map_take]; exact (SR.out.take (by omega)).below hW)
                have S3 : Hid (∀ (W : World), Below wr.heap.size wr W → Src W (some ⟨g, j, none⟩) 1 (m - j) (((xs.drop j)).map iv)) := Lib.hid fun W hW => by first | exact Src.nil _ _ _ | (rw [List.map_drop]; exact (SR.out.drop (by omega) (fun _ => by first | (simp [Addr.add]; done) | (exfalso; omega))).below hW)
                have HCQ : Hid (∀ W, Below wr.heap.size wr W → W.cell? ⟨b, off + k, none⟩ = some (.int .i64 x)) := Lib.hid fun W hW => HC.out W (HO.out.2.1.trans (hW.mono HO.out.2.1.size))
                have b1 : (j : Int) ≤ (m : Int) := by omega
                have b2 : (m : Int) ≤ (cap2 : Int) := by omega
                have b3 : (0 : Int) ≤ (j : Int) := by omega
                have b4 : (j : Int) ≤ (cap2 : Int) := by omega
                have b5 : j ≤ cap2 := by omega
                go_region_held3 (fun w' => w'.cell? ⟨b, off + k, none⟩ = some (.int .i64 x)) (go_keep) (first
                | (refine step_I (w := wr) rfl (.tmp 44) (.tmp 47) rfl (.slice (some ⟨wr.heap.size, 0, none⟩) 0 0) [] (by simp [Act.eval]) (some ⟨g, 0, none⟩) j cap2 (xs.take j) (by simp [Act.eval]) HJ.out ?_ ?_ ?_ ?_; (rw [List.length_nil]; omega); (first | exact OwnI.new (heap_new1 (wr.drewN _) _) (below_d1 _ _ _) (Nat.le_refl _) | exact OwnI.new (heap_new3 (wr.drewN _) _ _) (below_d2 _ _ _ _) (Nat.le_refl _)); (first | exact S1.out _ (below_d1 _ _ _) | exact S1.out _ (below_d2 _ _ _ _)); intro v1 w1 h1 hc1; have e1 := HCQ.out w1 h1.2.1; have H1 := Lib.hid h1; have K1 := Lib.hid hc1; clear h1 hc1)
                | (refine step_I (w := wr) rfl (.tmp 44) (.tmp 47) rfl (.slice (some ⟨wr.heap.size + 1, 0, none⟩) 0 0) [] (by simp [Act.eval]) (some ⟨g, 0, none⟩) j cap2 (xs.take j) (by simp [Act.eval]) HJ.out ?_ ?_ ?_ ?_; (rw [List.length_nil]; omega); (exact OwnI.new (heap_new2 (wr.drewN _) _ _) (below_d2 _ _ _ _) (by omega)); (exact S1.out _ (below_d2 _ _ _ _)); intro v1 w1 h1 hc1; have e1 := HCQ.out w1 h1.2.1; have H1 := Lib.hid h1; have K1 := Lib.hid hc1; clear h1 hc1)
                | (refine step_I (w := wr) rfl (.tmp 48) (.tmp 53) rfl v1 (xs.take j) (by simp [Act.eval]) (some ⟨w1.heap.size, 0, none⟩) 1 1 [x] (by simp [Act.eval]) rfl ?_ ?_ ?_ ?_; (rw [HJ.out]; omega); (exact H1.out.below (below_new1 _ _)); (exact Src.one (heap_new1 _ _)); intro v2 w2 h2 hc2; have e2 := HCQ.out w2 h2.2.1; have H2 := Lib.hid h2; have K2 := Lib.hid hc2; clear h2 hc2)
                | (refine step_I (w := wr) rfl (.tmp 48) (.tmp 53) rfl v1 (xs.take j) (by simp [Act.eval]) (some ⟨wr.heap.size, 0, none⟩) 1 1 [x] (by simp [Act.eval]) rfl ?_ ?_ ?_ ?_; (rw [HJ.out]; omega); (exact H1.out); (exact Src.one (K1.out.at_ (heap_new3 (wr.drewN _) _ _) (by simp [Value.ownBlock]))); intro v2 w2 h2 hc2; have e2 := HCQ.out w2 h2.2.1; have H2 := Lib.hid h2; have K2 := Lib.hid hc2; clear h2 hc2)
                | (refine step_I (w := wr) rfl (.tmp 48) (.tmp 53) rfl v1 (xs.take j) (by simp [Act.eval]) (some ⟨(wr.heap.size + 1), 0, none⟩) 1 1 [x] (by simp [Act.eval]) rfl ?_ ?_ ?_ ?_; (rw [HJ.out]; omega); (exact H1.out); (exact Src.one (K1.out.at_ (heap_new2 (wr.drewN _) _ _) (by simp [Value.ownBlock]))); intro v2 w2 h2 hc2; have e2 := HCQ.out w2 h2.2.1; have H2 := Lib.hid h2; have K2 := Lib.hid hc2; clear h2 hc2)
                | (refine step_I (w := wr) rfl (.tmp 54) (.tmp 57) rfl v2 ((xs.take j) ++ [x]) (by simp [Act.eval]) (some ⟨g, j, none⟩) (m - j) (cap2 - j) (xs.drop j) (by simp [Act.eval]) HD.out ?_ ?_ ?_ ?_; (first | (rw [List.length_append, HJ.out]; simp; omega) | simp); (exact H2.out); (exact S3.out _ H2.out.2.1); intro v3 w3 h3 hc3; have e3 := HCQ.out w3 h3.2.1; have H3 := Lib.hid h3; have K3 := Lib.hid hc3; clear h3 hc3))
                all_goals
                  go_wp2
                  go_roundw
                  case rel => exact ⟨k + 1, by omega, by go_num, by unfold SortRel; rw [HX.out, HI2.out]; exact H3.out.from_ HO.out.2.1⟩
                  case measure => simp [intOf]; omega
    · have hkn : k = n := by omega
      have HR : Hid (OwnI w wr u3 (sortR l)) := Lib.hid (by unfold SortRel at hrel; rw [hkn, HN.out, List.take_length] at hrel; exact hrel)
      clear hrel hkn
      go_wp2
      go_ret
      exact ⟨_, rfl, HR.out⟩
end Go.Proofs.Ytpophiiejmhniaa
