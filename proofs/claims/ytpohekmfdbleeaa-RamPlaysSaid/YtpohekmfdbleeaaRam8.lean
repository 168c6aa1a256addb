/-
  Package ram: Cells, walked.
-/
import Derived.Test.YtpohekmfdbleeaaRam7
namespace Go.Proofs.Ytpohekmfdbleeaa
open Go.ChangeShapes Go.WideShapes Go.ChangeAt Go.RowKit Go.Maps
set_option linter.unusedVariables false
theorem infoC : (Try.prog.info? 49).map (fun i => (i.zero, i.size, i.bytes)) = some (some (.agg #[.int .u64 0, .int .u64 0]), 2, 16) := by kernel_rfl
/-- What stands in the round: the iterator rr over the map bm; out holds the cells that have come. -/
def CellsRel (bm rr : Nat) (cs : CS) (w wr : World) (out : Value) : Prop :=
  ∃ left cnt, ∃ xs : CS, wr.ranges (H := Unit) Try.prog 23 (plainElem Try.prog 23) bm rr cs.length (datC cs) left cnt ∧ Row wr 49 2 out xs.length (flatC xs) ∧ (∀ p, p ∈ xs ↔ p ∈ cs ∧ left (kd p.1) = false) ∧ xs.Nodup ∧
    Below w.heap.size w wr ∧ w.heap.size ≤ rr ∧ (∀ k, out.ownBlock = some k → rr < k)
theorem ranges_chg {P : Program} {k : TypeId} {R : Value → Option (DataW Unit × List MemPlace)} {b r n : Nat} {D : DataW Unit} {left : Lit → Bool} {cnt : Nat} {w w' : World} {S : Nat → Prop} (h : w.ranges P k R b r n D left cnt) (hc : Chg S w w') (h1 : ¬ S b) (h2 : ¬ S r) : w'.ranges P k R b r n D left cnt := by
  obtain ⟨es, clock, since, seen, c0, hb, F, hs, hD, hr, rest⟩ := h
  exact ⟨es, clock, since, seen, c0, hc.at_ hb h1, F, hs, hD, hc.at_ hr h2, rest⟩
theorem sort_none (cap : Nat) (a : Option Addr) (fv : Value) (w : World) :
    Calls Try.prog 21 #[.slice a 0 cap, fv] w fun e w' => e = .returned (.tuple #[]) ∧ w' = w :=
  AnyF.slices_SortFunc_none Try.sortCell a cap fv w
theorem mem_step {cs xs : CS} {left : Lit → Bool} {x c : Int} (hr : rising cs) (hmem : ∀ p, p ∈ xs ↔ p ∈ cs ∧ left (kd p.1) = false) (hin : (x, c) ∈ cs) (p : Int × Int) :
    p ∈ xs ++ [(x, c)] ↔ p ∈ cs ∧ (left (kd p.1) && !(kd p.1).sameKey (kd x)) = false := by
  rw [same_kd]
  simp only [List.mem_append, List.mem_singleton, Bool.and_eq_false_iff, Bool.not_eq_false', beq_iff_eq]
  rw [hmem]
  constructor
  · rintro (⟨h1, h2⟩ | h)
    · exact ⟨h1, .inl h2⟩
    · subst h; exact ⟨hin, .inr rfl⟩
  · rintro ⟨h1, h2 | h2⟩
    · exact .inl ⟨h1, h2⟩
    · exact .inr (rising_inj hr h1 hin h2)
def CellsPost (w : World) (cs : CS) (u : Value) (w' : World) : Prop := Pairs w' u cs ∧ (∀ k, u.ownBlock = some k → w.heap.size ≤ k) ∧ Below w.heap.size w w'
theorem nodup_len : ∀ {xs cs : CS}, xs.Nodup → (∀ p ∈ xs, p ∈ cs) → xs.length ≤ cs.length
  | [], _, _, _ => Nat.zero_le _
  | y :: r, cs, hx, h => by
    obtain ⟨h1, h2⟩ := List.nodup_cons.1 hx
    have hy := h y (by simp)
    have ih := nodup_len (xs := r) (cs := cs.erase y) h2 (fun p hp => (List.mem_erase_of_ne (fun e => h1 (by rw [← e]; exact hp))).2 (h p (by simp [hp])))
    rw [List.length_erase_of_mem hy] at ih
    have : 0 < cs.length := List.length_pos_of_mem hy
    simp only [List.length_cons]
    omega
set_option maxHeartbeats 1000000 in
set_option maxRecDepth 100000 in
theorem ram_Cells {w : World} {r bm : Nat} {aw ww : Int} {cs : CS} (h : RamAt w r bm aw ww cs) (hr : rising cs) (hwf : ∀ p ∈ cs, wf p.1 ∧ wf p.2) (hs : cs.length ≤ 1099511627776) :
    Calls Try.prog 12 #[.pointer (some ⟨r, 0, none⟩)] w fun e w' => ∃ u, e = .returned u ∧ CellsPost w cs u w' := by
  obtain ⟨k0, k1, k2⟩ := h.cells
  have HO := Lib.hid h.2
  have HH := Lib.hid h
  have HR := Lib.hid hr
  have HW := Lib.hid hwf
  have HS := Lib.hid hs
  clear h hr hwf hs
  go_enter Try.func12, Try.ntmps12
  go_wp2_with (first
    | (at_range; refine wpList_range_own (H := Unit) _ rfl _ 45 rfl 23 23 keyedU Try.underlying45 _ bm _ (datC cs) rfl HO.out ?_; intro w0 hrg0 hg0 hs0)
    | go_in)
  go_frame
  obtain ⟨rr, hrr⟩ : ∃ rr, rr = w.heap.size := ⟨_, rfl⟩
  have hB0 : Below w.heap.size w w0 := (Below.refl _ w).grown hg0 (Nat.le_refl _) (fun j hj => by cases hj)
  have hrel0 : CellsRel bm rr cs w w0 (.slice none 0 0) := by
    rw [hrr]
    refine ⟨_, _, [], hrg0, World.ownsRow_nil _ _ _ _, fun p => ?_, List.nodup_nil, hB0, Nat.le_refl _, fun k hk => by simp [Value.ownBlock] at hk⟩
    simp only [List.not_mem_nil, false_iff, not_and]
    intro hp hl
    have : has (datC cs) (kd p.1) = true := by
      unfold has datC
      rw [List.any_eq_true]
      exact ⟨ent p, List.mem_map_of_mem hp, by show (kd p.1).sameKey (kd p.1) = true; rw [same_kd]; simp⟩
    rw [this] at hl; cases hl
  have H0 := Lib.hid hrel0
  rw [← hrr]
  clear hrg0 hg0 hs0 hrr hB0 hrel0
  go_loopw [2] (fun out wr => CellsRel bm rr cs w wr out) (fun _ wr => wr.rangeLeft bm rr)
  case atStart => exact H0.out
  case round =>
    obtain ⟨left, cnt, xs, hrg, hrow, hmem, hnd, hb, hrr, hown⟩ := hrel
    have HRW := Lib.hid hrow
    have HM := Lib.hid hmem
    have HL := Lib.hid hrg.left_eq
    have HOW := Lib.hid hown
    have HRR := Lib.hid hrr
    clear hrow hmem hown hrr
    go_wp2_with (first
      | (at_next; refine wpList_next_ranges_ii (H := Unit) _ rfl _ rfl 23 23 .u64 .u64 keyedU Try.underlying23 Try.underlying23 bm rr _ _ _ _ rfl hrg ?_ ?_)
      | go_in)
    case refine_1 =>
      intro hc0 hl0
      have hperm : xs.Perm cs := perm_of_mem (rising_nodup HR.out) hnd (fun p => by rw [HM.out p]; exact ⟨fun h => h.1, fun h => ⟨h, hl0 _⟩⟩)
      have HP := Lib.hid hperm
      clear hc0 hl0 hperm hrg hnd
      rcases HRW.out.form with ⟨rfl, h0, -⟩ | ⟨g, cap, rfl, -, -, -, -⟩
      · have hx0 : xs = [] := List.eq_nil_of_length_eq_zero h0
        have hcs : Hid (cs = []) := Lib.hid (by have := HP.out; rw [hx0] at this; exact this.symm.eq_nil)
        clear h0 hx0
        go_wp2_with ((go_at_call 21; refine (sort_none _ _ _ _).mono ?_; rintro e w' ⟨rfl, rfl⟩))
        go_ret
        exact ⟨_, rfl, by rw [hcs.out]; exact pairs_nil _, fun k hk => by simp [Value.ownBlock] at hk, hb⟩
      · have HX : Hid (xs.length < 4611686018427387904) := Lib.hid (by have := HP.out.length_eq; have := HS.out; omega)
        go_wp2_with ((go_at_call 21; refine (sort_cells HRW.out HX.out).mono ?_; rintro e w2 ⟨rfl, hp⟩))
        have HPP := Lib.hid hp
        clear hp
        go_ret
        refine ⟨_, rfl, ?_⟩
        obtain ⟨ys, hy1, hy2, hy3, hy4⟩ := HPP.out
        have hg := HOW.out g rfl
        have e := perm_rising HR.out (hy1.trans HP.out) hy2
        subst e
        have hlen := HP.out.length_eq
        have hgw := HRW.out.lt g rfl
        obtain ⟨hl1, hl2⟩ : xs.length ≤ cap ∧ cap ≤ maxLen := by
          rcases HRW.out.form with ⟨h, -⟩ | ⟨g', cap', h, h1, h2, -, -⟩
          · cases h
          · injection h with e1 e2 e3
            subst e3; exact ⟨h1, h2⟩
        refine ⟨⟨_, cap, by rw [hlen]; rfl, by omega, hl2, HW.out, .inr ⟨g, 0, rfl, Nat.lt_of_lt_of_le hgw hy4.size, fun j hj => by rw [Nat.zero_add]; exact hy3 j hj⟩⟩, fun k hk => ?_, hb.trans (hy4.below hb.size (fun i hi => by have := HRR.out; omega))⟩
        have : g = k := by simpa [Value.ownBlock] using hk
        have := HRR.out; omega
    case refine_2 =>
      intro x c w1 cnt1 hwx hwc hlx hat hrg1 hlt hg1 hs1 hen
      have hin : (x, c) ∈ cs := mem_of_at hat
      have hms := mem_step HR.out HM.out hin
      have hnx : (x, c) ∉ xs := fun h => by have := ((HM.out _).1 h).2; rw [show left (kd x) = true from hlx] at this; cases this
      have hnd1 : (xs ++ [(x, c)]).Nodup := by
        rw [List.nodup_append]
        exact ⟨hnd, by simp, fun a ha b hb e => by simp at hb; rw [e, hb] at ha; exact hnx ha⟩
      have hle := nodup_len hnd1 (fun p hp => ((hms p).1 hp).1)
      rw [List.length_append, List.length_singleton] at hle
      have hc1 : Chg (fun k => k = rr) wr w1 := Chg.of_grown hg1 (fun k hk => by injection hk with hk; exact hk.symm)
      have hrow1 : Row w1 49 2 u2 xs.length (flatC xs) := HRW.out.chg hc1 (fun g hg e => by have := HOW.out g hg; omega)
      have HRow1 := Lib.hid hrow1
      have HMS := Lib.hid hms
      have HND := Lib.hid hnd1
      have HLE := Lib.hid hle
      have HC1 := Lib.hid hc1
      have HR1 := Lib.hid hrg1
      have HLT := Lib.hid hlt
      have HS1 := Lib.hid hs1
      have HBM := Lib.hid HO.out.lt
      clear hin hms hnx hnd1 hle hc1 hrow1 hrg1 hlt hs1 hg1 hat hlx hwx hwc hnd hrg
      go_wp2_with (at_builtin; refine wpList_app rfl _ _ _ rfl 49 (.agg #[.int .u64 0, .int .u64 0]) 2 16 Try.underlying22 infoC rfl (by decide) u2 xs.length (flatC xs) rfl ?ho w1.heap.size 0 1 1 [.int .u64 x, .int .u64 c] rfl rfl ?hn ?hs ?c1 ?c2 ?_)
      case ho => exact HRow1.out.alloc _
      case hn =>
        intro j u hu
        match j, hu with
        | 0, hu => simp at hu; subst hu; simp [World.cell?_alloc_at]
        | 1, hu => simp at hu; subst hu; simp [World.cell?_alloc_at]
      case hs => intro u hu; simp at hu; rcases hu with rfl | rfl <;> rfl
      case c1 => have := HLE.out; have := HS.out; unfold maxLen; omega
      case c2 => have := HLE.out; have := HS.out; omega
      intro v' w2 hp
      have HP := Lib.hid hp
      clear hp
      go_wp2
      go_roundw
      case rel =>
        obtain ⟨p1, p2, p3⟩ := HP.out
        have hrr := HRR.out
        have hbm := HBM.out
        have hsz := HS1.out
        have hwr := hb.size
        have hown : ∀ k, u2.ownBlock = some k → rr < k := HOW.out
        have hrlt : rr < w1.heap.size := HR1.out.lt
        refine ⟨_, cnt1, xs ++ [(x, c)], ranges_chg (ranges_chg HR1.out ((Chg.refl (fun _ => False) w1).alloc _) (fun h => h) (fun h => h)) p2 (fun e => by have := hown _ e; omega) (fun e => by have := hown _ e; omega), ?_, HMS.out, HND.out, ?_, hrr, fun k hk => ?_⟩
        · have e : flatC (xs ++ [(x, c)]) = flatC xs ++ [.int .u64 x, .int .u64 c] := by simp [flatC, encC]
          rw [e, List.length_append, List.length_singleton]
          exact p1
        · refine (hb.trans (HC1.out.below hwr (fun i hi => by omega))).trans ?_
          refine (((Below.refl _ w1).alloc (Nat.le_refl _) _).mono (by omega)).trans (p2.below (by simp; omega) (fun i hi => by have := hown _ hi; omega))
        · rcases p3 with e | e
          · rw [e] at hk; exact hown k hk
          · rw [e] at hk; simp at hk; omega
      case measure =>
        obtain ⟨p1, p2, p3⟩ := HP.out
        have hown : ∀ k, u2.ownBlock = some k → rr < k := HOW.out
        have hbm := HBM.out
        have hrr := HRR.out
        have h2 := ranges_chg (ranges_chg HR1.out ((Chg.refl (fun _ => False) w1).alloc (.cells #[.int .u64 x, .int .u64 c] 49)) (fun h => h) (fun h => h)) p2 (fun e => by have := hown _ e; omega) (fun e => by have := hown _ e; omega)
        rw [h2.left_eq, HL.out]
        exact HLT.out
end Go.Proofs.Ytpohekmfdbleeaa
