/-
  Sets of numbers (map[int]bool), of the call's own; their keys, in order.
-/
import Derived.Test.YtghlgegfokjgbaaMapI
import Derived.Test.YtghlgegfokjgbaaShelf
import Derived.Test.YtghlgegfokjgbaaOwnB
import Derived.WalkKit
import Derived.WalkSpells
import Derived.WalkLawsBesides
import Derived.Test.YtghlgegfokjgbaaLnA
namespace Go.Proofs.Ytghlgegfokjgbaa
open Go Go.ChangeShapes Go.WideShapes Go.ChangeAt Go.RowKit Go.Maps Go.Sort Go.Shelf
set_option linter.unusedVariables false
set_option linter.unusedSimpArgs false
set_option maxRecDepth 100000 in
theorem boolE_inv {v : Value} {a : Bool} {ps : List MemPlace} (h : plainElem (H := Unit) Try.prog 4 v = some (.lit (.bool a), ps)) : v = .bool a := by
  unfold plainElem at h
  rw [Try.underlying4] at h
  cases v <;> simp at h
  rw [h.1]
noncomputable def eBool : EKnd Bool := ⟨4, plainElem Try.prog 4, .bool, fun x => .lit (.bool x), false, fun a => plainElem_bool Try.underlying4 a, boolE_inv, fun w => by kernel_rfl⟩
theorem tmB : Try.prog.underlying 45 = some (.map 3 eBool.e) := Try.underlying45
def setF (seen : List Nat) (x : Int) : Option Bool := if 0 ≤ x ∧ x.toNat ∈ seen then some true else none
theorem setF_more (seen : List Nat) (b : Nat) : setF (seen ++ [b]) = upd (setF seen) (b : Int) (some true) := by
  funext x
  show (if 0 ≤ x ∧ x.toNat ∈ seen ++ [b] then some true else none) = if x = (b : Int) then some true else (if 0 ≤ x ∧ x.toNat ∈ seen then some true else none)
  by_cases e : x = (b : Int)
  · rw [if_pos e, if_pos ⟨by omega, by rw [e]; simp⟩]
  · rw [if_neg e]
    by_cases h0 : 0 ≤ x
    · have : x.toNat ∈ seen ++ [b] ↔ x.toNat ∈ seen := by
        rw [List.mem_append, List.mem_singleton]
        exact ⟨fun h => h.resolve_right (by omega), .inl⟩
      by_cases h1 : x.toNat ∈ seen
      · rw [if_pos ⟨h0, this.2 h1⟩, if_pos ⟨h0, h1⟩]
      · rw [if_neg (fun h => h1 (this.1 h.2)), if_neg (fun h => h1 h.2)]
    · rw [if_neg (fun h => h0 h.1), if_neg (fun h => h0 h.1)]
theorem sortsA (m : Nat) : AnyZI.SortsIn Try.prog Try.sortedA_ren Fence.wide m :=
  ⟨fun blk off cap ss W hH hblk hsz => callsIn_wide.2 (AnyM.slices_Sort_int Try.sortA blk off cap ss W hH hblk hsz),
   fun p cap W => callsIn_wide.2 (AnyM.slices_Sort_int_none Try.sortA p cap W)⟩
theorem keys_ (mb : Option Nat) (W : World) : Calls Try.prog 43 #[.map mb] W fun e w' => e = .returned (.func (.func 58) #[] #[.pointer (some ⟨W.heap.size, 0, none⟩)]) ∧ w' = W.alloc (.cells #[.map mb] 45) :=
  (callsIn_wide (n := 5)).1 (AnyZI.keys_in Try.keysA Fence.wide 5 trivial rfl mb W)
theorem intKeys_dat {α : Type} (dv : α → DataW Unit) (cs : List (Int × α)) : intKeys (datF dv cs) = cs.map (·.1) := by
  show (cs.map (entF dv)).map (fun p => Go.intOf p.1) = _
  rw [List.map_map]
  rfl
/-- The keys of a set, in order. -/
def SrtQ (w : World) (seen : List Nat) (e : Ending) (w' : World) : Prop :=
  ∃ (v : Value) (R : List Nat), e = .returned v ∧ Row w' 3 1 v R.length (R.map fun i : Nat => iv (i : Nat)) ∧ (∀ g, v.ownBlock = some g → w.heap.size ≤ g) ∧ R.Pairwise (· < ·) ∧ (∀ x, x ∈ R ↔ x ∈ seen) ∧ Below w.heap.size w w'
theorem sorted_ {w : World} {b n : Nat} {seen : List Nat} (h : MapF eBool w b n (setF seen)) (hn : n ≤ 1000000) :
    Calls Try.prog 42 #[.func (.func 58) #[] #[.pointer (some ⟨w.heap.size, 0, none⟩)]] (w.alloc (.cells #[.map (some b)] 45)) (SrtQ w seen) := by
  have hbl := h.lt
  obtain ⟨cs, hown, hnd, hf⟩ := h
  have hsz : Maps.size (datF eBool.dv cs) ≤ 1000000 := by
    have := hown.size_le
    omega
  have hseq : SeqGives Fence.wide 2 Try.prog 58 #[.pointer (some ⟨w.heap.size, 0, none⟩)] encZ (fun ss => ss.Perm (intKeys (datF eBool.dv cs))) (Maps.size (datF eBool.dv cs)) (w.alloc (.cells #[.map (some b)] 45)) :=
    AnyZI.keys_gives (ρ := Try.keysA_ren) { Try.keysA with } Fence.wide _ trivial rfl (by omega) w.heap.size b n (datF eBool.dv cs) _ (by simp) (by simp) (by
      obtain ⟨es, clock, hb, Ft, hs, hD⟩ := hown
      exact ⟨es, clock, (Below.heap_alloc _ _ b hbl).trans hb, Ft, hs, hD⟩)
  have cS := AnyZI.sorted_in Try.sortedA Fence.wide 5 trivial trivial trivial trivial rfl (by omega) (sortsA _) (enters_of Try.func57 (by kernel_rfl) rfl) 58 #[.pointer (some ⟨w.heap.size, 0, none⟩)] trivial (enters_of Try.func58 (by kernel_rfl) rfl) _ _ (by unfold maxLen; omega) (by omega) _ hseq
  refine ((callsIn_wide (n := 5)).1 cS).mono ?_
  rintro e w' ⟨v, ss, rfl, hS, hrow, hnil, hb⟩
  rw [intKeys_dat] at hS
  obtain ⟨L, hL⟩ : ∃ L, L = ss.mergeSort fun x y => decide (x ≤ y) := ⟨_, rfl⟩
  rw [← hL] at hrow
  have hpL : L.Perm (cs.map (·.1)) := by rw [hL]; exact (List.mergeSort_perm _ _).trans hS
  have hndL : L.Nodup := hpL.nodup_iff.2 hnd
  have hsL : L.Pairwise fun x y => (decide (x ≤ y)) = true := by
    rw [hL]
    exact List.pairwise_mergeSort (fun a b c h1 h2 => by simp at *; omega) (fun a b => by simp; omega) ss
  have hmem : ∀ x, x ∈ L ↔ 0 ≤ x ∧ x.toNat ∈ seen := fun x => by
    rw [hpL.mem_iff, mem_keys, ← hf]
    unfold setF
    split
    · rename_i h; exact ⟨fun _ => h, fun _ => rfl⟩
    · rename_i h; exact ⟨fun e => by simp at e, fun e => absurd e h⟩
  have hle : ss.length = (L.map Int.toNat).length := by rw [List.length_map, hL, List.length_mergeSort]
  have hmap : L.map encZ = (L.map Int.toNat).map fun i : Nat => iv (i : Nat) := by
    rw [List.map_map]
    apply List.map_congr_left
    intro x hx
    have := ((hmem x).1 hx).1
    show Value.int .i64 x = Value.int .i64 ((x.toNat : Nat) : Int)
    rw [Int.toNat_of_nonneg this]
  rw [hmap, hle] at hrow
  refine ⟨v, L.map Int.toNat, rfl, ?_, fun g hg => ?_, ?_, fun x => ?_, ?_⟩
  · exact ownsRow_base_a hrow (Nat.zero_le _)
  · have := (World.ownsRow.lt hrow g hg).1
    simp at this
    omega
  · rw [List.pairwise_map]
    refine (List.Pairwise.and_mem.1 (hsL.and hndL)).imp ?_
    rintro a b ⟨ha, hb', h1, h2⟩
    have a0 := ((hmem a).1 ha).1
    have b0 := ((hmem b).1 hb').1
    have h1 : a ≤ b := of_decide_eq_true h1
    omega
  · rw [List.mem_map]
    constructor
    · rintro ⟨y, hy, rfl⟩
      exact ((hmem y).1 hy).2
    · intro hx
      exact ⟨(x : Int), (hmem _).2 ⟨by omega, by rw [Int.toNat_natCast]; exact hx⟩, by omega⟩
  · exact ((Below.refl _ w).alloc (Nat.le_refl _) _).trans (hb.mono (by simp))
end Go.Proofs.Ytghlgegfokjgbaa
/-
  Chapter 23: how many levels a clause's variables have, walked: learn.Levels, the document's.
-/
namespace Go.Proofs.Ytghlgegfokjgbaa
open Go Go.ChangeShapes Go.WideShapes Go.ChangeAt Go.RowKit Go.Maps
set_option linter.unusedVariables false
set_option linter.unusedSimpArgs false
attribute [local go_sem ↓] Go.wp_at_zero Go.wp_at_succ
theorem learn_abs (x : Int) (hx : small x) (w : World) : Calls Try.prog 19 #[.int .i64 x] w fun e w' => e = .returned (.int .i64 (absI x)) ∧ w = w' := by
  obtain ⟨h0, h1⟩ := hx
  obtain ⟨a, ha⟩ : ∃ a, a = absI x := ⟨_, rfl⟩
  have e1 : max x (-x) = a := by rw [ha]; unfold absI; rw [Int.max_def]; split <;> split <;> omega
  have e2 : (if x ≤ -x then -x else x) = a := by rw [ha]; unfold absI; split <;> split <;> omega
  rw [← ha]
  clear ha
  go_enter Try.func19, Try.ntmps19
  go_wp2
  go_ret
  exact ⟨rfl, rfl⟩
/-- The levels met so far. -/
def LvR (w : World) (t : TS) (c : List Int) (k : Nat) (wr : World) : Prop :=
  ∃ nn f, nn ≤ k ∧ MapF eBool wr w.heap.size nn f ∧ (∀ x, (f x).isSome = true ↔ 0 ≤ x ∧ ∃ y ∈ c.take k, t.level (absI y) = x) ∧ Below w.heap.size w wr
theorem LvR.start (w : World) (t : TS) (c : List Int) : LvR w t c 0 (w.alloc (.map #[] 0)) :=
  ⟨0, _, Nat.le_refl _, MapF.made eBool w, fun x => by simp, (Below.refl _ _).alloc (Nat.le_refl _) _⟩
theorem LvR.skip {w wr w' : World} {t : TS} {c : List Int} {k : Nat} (h : LvR w t c k wr) (hk : k < c.length) (hl : t.level (absI (c.getD k 0)) < 0) (hb : Below wr.heap.size wr w') : LvR w t c (k + 1) w' := by
  obtain ⟨nn, f, h1, h2, h3, h4⟩ := h
  refine ⟨nn, f, by omega, h2.chg (S := fun _ => False) (Chg.of_below hb) (fun e => e), fun x => ?_, h4.trans (hb.mono h4.size)⟩
  rw [h3, take_snocI hk]
  constructor
  · rintro ⟨a, y, hy, e⟩; exact ⟨a, y, List.mem_append_left _ hy, e⟩
  · rintro ⟨a, y, hy, e⟩
    rcases List.mem_append.1 hy with hy | hy
    · exact ⟨a, y, hy, e⟩
    · rw [List.mem_singleton] at hy; subst hy; omega
theorem LvR.put {w wr w1 : World} {t : TS} {c : List Int} {k : Nat} (h : LvR w t c k wr) (hk : k < c.length) (hk9 : k ≤ 1000) {lv : Int} (hl : t.level (absI (c.getD k 0)) = lv) (hl0 : 0 ≤ lv) (hl1 : lv ≤ 1000000) (hb : Below wr.heap.size wr w1) :
    ∃ w', (Instr.mapUpdate 45 (.map (some w.heap.size)) (.int .i64 lv) (.bool true)).run Try.prog w1 = .ok () w' ∧ LvR w t c (k + 1) w' := by
  obtain ⟨nn, f, h1, h2, h3, h4⟩ := h
  obtain ⟨w', hr, hm, hc⟩ := (h2.chg (S := fun _ => False) (Chg.of_below hb) (fun e => e)).store tmB (by unfold maxLen; omega) (x := lv) ⟨by omega, by omega⟩ true
  have h5 := h4.trans (hb.mono h4.size)
  refine ⟨w', hr, nn + 1, _, by omega, hm, fun x => ?_, h5.trans (hc.below h5.size (fun i hi => by omega))⟩
  unfold upd
  rw [take_snocI hk]
  by_cases hx : x = lv
  · rw [if_pos hx]
    refine ⟨fun _ => ⟨by omega, _, List.mem_append_right _ (List.mem_singleton.2 rfl), by rw [hl, hx]⟩, fun _ => rfl⟩
  · rw [if_neg hx, h3]
    constructor
    · rintro ⟨a, y, hy, e⟩; exact ⟨a, y, List.mem_append_left _ hy, e⟩
    · rintro ⟨a, y, hy, e⟩
      rcases List.mem_append.1 hy with hy | hy
      · exact ⟨a, y, hy, e⟩
      · rw [List.mem_singleton] at hy; subst hy; omega
theorem LvR.old {w wr : World} {t : TS} {c : List Int} {k : Nat} (h : LvR w t c k wr) : Below w.heap.size w wr := by obtain ⟨_, _, _, _, _, h⟩ := h; exact h
def LLQ (w : World) (t : TS) (c : List Int) (e : Ending) (w' : World) : Prop :=
  ∃ ks : List Int, e = .returned (.int .i64 (ks.length : Nat)) ∧ ks.Nodup ∧ (∀ x, x ∈ ks ↔ 0 ≤ x ∧ ∃ y ∈ c, t.level (absI y) = x) ∧ Below w.heap.size w w'
theorem LvR.fin {w wr : World} {t : TS} {c : List Int} {k : Nat} (h : LvR w t c k wr) (hk : k = c.length) :
    ∃ m : Nat, (Builtin.len_ #[45] 3 #[.map (some w.heap.size)]).run Try.prog wr = .ok (.int .i64 m) wr ∧ LLQ w t c (.returned (.int .i64 m)) wr := by
  obtain ⟨nn, f, h1, h2, h3, h4⟩ := h
  obtain ⟨ks, a1, a2, a3⟩ := h2.len tmB 3
  refine ⟨ks.length, a1, ks, rfl, a2, fun x => ?_, h4⟩
  rw [a3, h3, hk, List.take_length]
set_option maxHeartbeats 2000000 in
set_option maxRecDepth 100000 in
theorem learn_Levels {B : Nat} {w0 w : World} {r : Nat → Nat} {wb t : Nat} {S : WS} {v : Value} {c : List Int} (h : LW B w0 w r wb t S) (hl : LvB S.t) (hd : S.t.lv.length ≤ 1000) (hv : Ints w v c) (hcl : ClauseL c) (hn30 : c.length ≤ 30) :
    Calls Try.prog 7 #[.pointer (some ⟨t, 0, none⟩), v] w (LLQ w S.t c) := by
  have hmm := @run_makeMap Try.prog
  have HLV : Hid (∀ (W : World), Below w.heap.size w W → ∀ x, Calls Try.prog 18 #[.pointer (some ⟨t, 0, none⟩), .int .i64 x] W fun e w' => e = .returned (.int .i64 (S.t.level x)) ∧ Below W.heap.size W w') := Lib.hid fun W hW x => (h.below hW).level x
  have HLB : Hid (∀ x, -1 ≤ S.t.level x ∧ S.t.level x ≤ 1000) := Lib.hid fun x => by have := lev_bd hl x; omega
  obtain ⟨ts, hts⟩ : ∃ ts, ts = S.t := ⟨_, rfl⟩
  rw [← hts] at HLV HLB ⊢
  have HST := Lib.hid (LvR.start w ts c)
  have HCL := Lib.hid hcl
  obtain ⟨a, cap, rfl, -, hc1, hc2, hv⟩ := hv
  obtain ⟨n, hn⟩ : ∃ n, n = c.length := ⟨_, rfl⟩
  rw [← hn] at hc1 hn30 ⊢
  have HN := Lib.hid hn
  have HV := Lib.hid hv
  obtain ⟨mb, hmb⟩ : ∃ mb, mb = w.heap.size := ⟨_, rfl⟩
  have HMB := Lib.hid hmb
  clear hv hn hc1 hc2 hcl h hl hd hts hmb
  go_enter Try.func7, Try.ntmps7
  go_wp2
  rw [← HMB.out]
  go_loopw [12] (fun i wr => ∃ k : Nat, k ≤ n ∧ i = .int .i64 k ∧ LvR w ts c k wr) (fun i _ => n - (intOf i).toNat)
  case atStart => exact ⟨0, Nat.zero_le _, rfl, HST.out⟩
  case round =>
    obtain ⟨k, hk, rfl, hrel⟩ := hrel
    by_cases hlt : (k : Int) < (n : Int)
    · have hkn : k < c.length := by have := HN.out; omega
      obtain ⟨b, off, rfl, hcell⟩ := ints_cells HV.out hkn
      have q1 := hcell wr hrel.old
      obtain ⟨x, hx⟩ : ∃ x, x = c.getD k 0 := ⟨_, rfl⟩
      have hxs : small x := by rw [hx]; exact small_at HCL.out hkn
      rw [← hx] at q1
      have HA := Lib.hid (fun W => learn_abs x hxs W)
      have HLX := Lib.hid (HLV.out wr hrel.old (absI x))
      obtain ⟨lv, hlv⟩ : ∃ lv, lv = ts.level (absI x) := ⟨_, rfl⟩
      have hlb := HLB.out (absI x)
      rw [← hlv] at HLX hlb
      have HL2 : Hid (ts.level (absI (c.getD k 0)) = lv) := Lib.hid (by rw [← hx, hlv])
      obtain ⟨y, hy⟩ : ∃ y, y = absI x := ⟨_, rfl⟩
      rw [← hy] at HA HLX
      have HR := Lib.hid hrel
      have HK := Lib.hid hkn
      obtain ⟨hl0, hl1⟩ := hlb
      clear hrel hcell hx hxs hlv hy hkn
      go_wp2_with ((go_at_call 19; refine (HA.out _).mono ?_; rintro e w' ⟨rfl, rfl⟩))
      refine HLX.out.mono ?_
      rintro e w1 ⟨rfl, hb1⟩
      by_cases hneg : lv < 0
      · have HF := Lib.hid (HR.out.skip HK.out (by rw [HL2.out]; exact hneg) hb1)
        have d0 : decide (0 ≤ lv) = false := decide_eq_false (by omega)
        clear hb1 hl0 hl1 hneg
        go_wp2
        go_roundw
        case rel => exact ⟨k + 1, by omega, by go_num, HF.out⟩
        case measure => simp [intOf]; omega
      · obtain ⟨w2, hr2, hF⟩ := HR.out.put HK.out (by omega) HL2.out (by omega) (by omega) hb1
        rw [← HMB.out] at hr2
        have HF := Lib.hid hF
        have d0 : decide (0 ≤ lv) = true := decide_eq_true (by omega)
        clear hb1 hl0 hl1 hneg hF
        go_wp2
        go_roundw
        case rel => exact ⟨k + 1, by omega, by go_num, HF.out⟩
        case measure => simp [intOf]; omega
    · obtain ⟨m, hm, hQ⟩ := hrel.fin (by have := HN.out; omega)
      rw [← HMB.out] at hm
      have HQ := Lib.hid hQ
      clear hrel hQ
      go_wp2
      go_ret
      exact HQ.out
end Go.Proofs.Ytghlgegfokjgbaa
/-
  Chapter 23: the document's trail: find, Level; the document's Levels.
-/
namespace Go.Proofs.Ytghlgegfokjgbaa
open Go Go.ChangeShapes Go.WideShapes Go.ChangeAt Go.RowKit Go.Maps
set_option linter.unusedVariables false
set_option linter.unusedSimpArgs false
attribute [local go_sem ↓] Go.wp_at_zero Go.wp_at_succ
/-- Where a variable stands among the items. -/
def FndR (its : List It) (v r : Int) : Prop := (∃ k : Nat, r = (k : Int) ∧ k < its.length ∧ absI (its.getD k (0, 0, 0)).1 = v ∧ ∀ j, j < k → absI (its.getD j (0, 0, 0)).1 ≠ v) ∨ (r = -1 ∧ ∀ j, j < its.length → absI (its.getD j (0, 0, 0)).1 ≠ v)
def SmI (its : List It) : Prop := ∀ j, j < its.length → small (its.getD j (0, 0, 0)).1
set_option maxHeartbeats 2000000 in
set_option maxRecDepth 100000 in
theorem r21_find {w : World} {cb : Nat} {a d vL : Value} {its : List It} (h : Cop w cb a d vL its) (hs : SmI its) (hn9 : its.length ≤ 1000) (v : Int) :
    Calls Try.prog 48 #[.pointer (some ⟨cb, 0, none⟩), .int .i64 v] w fun e w' => (∃ r, e = .returned (.int .i64 r) ∧ FndR its v r) ∧ w = w' := by
  have c1 : w.cell? ⟨cb, 1, none⟩ = some vL := h.b.cell 1
  obtain ⟨A, cap, hvL, hc1, hc2⟩ := h.l.formI
  have HA := Lib.hid (fun k (hk : k < its.length) => h.at_ hk)
  have HS := Lib.hid hs
  obtain ⟨n, hn⟩ : ∃ n, n = its.length := ⟨_, rfl⟩
  rw [← hn] at hvL hc1 hn9
  have HN := Lib.hid hn
  subst hvL
  clear h hs hn
  go_enter Try.func48, Try.ntmps48
  go_wp2
  go_loopw [5] (fun i wr => ∃ k : Nat, k ≤ n ∧ i = .int .i64 k ∧ (∀ j, j < k → absI (its.getD j (0, 0, 0)).1 ≠ v) ∧ wr = w) (fun i _ => n - (intOf i).toNat)
  case atStart => exact ⟨0, Nat.zero_le _, rfl, fun j hj => absurd hj (by omega), rfl⟩
  case round =>
    obtain ⟨k, hk, rfl, hrel, rfl⟩ := hrel
    have HR := Lib.hid hrel
    clear hrel
    by_cases hlt : (k : Int) < (n : Int)
    · have hkn : k < its.length := by have := HN.out; omega
      obtain ⟨g, cap', he, q0, q1, q2, -⟩ := HA.out k hkn
      injection he with e1 e2 e3
      subst e1
      have hx := HS.out k hkn
      obtain ⟨x, hxe⟩ : ∃ x, x = (its.getD k (0, 0, 0)).1 := ⟨_, rfl⟩
      rw [← hxe] at q0 hx
      have HB := Lib.hid (fun W => r17_Abs x hx W)
      obtain ⟨y, hy⟩ : ∃ y, y = absI x := ⟨_, rfl⟩
      rw [← hy] at HB
      have HY : Hid (absI (its.getD k (0, 0, 0)).1 = y) := Lib.hid (by rw [hy, hxe])
      have HK := Lib.hid hkn
      clear hx hxe hy hkn e2 e3 q1 q2
      by_cases hyv : y = v
      · subst hyv
        have HF : Hid (FndR its y (k : Int)) := Lib.hid (.inl ⟨k, rfl, HK.out, HY.out, HR.out⟩)
        go_wp2_with ((go_at_call 21; refine (HB.out _).mono ?_; rintro e w' ⟨rfl, rfl⟩))
        go_ret
        exact ⟨⟨_, rfl, HF.out⟩, rfl⟩
      · have d0 : (y == v) = false := by rw [beq_eq_false_iff_ne]; exact hyv
        have HF : Hid (∀ j, j < k + 1 → absI (its.getD j (0, 0, 0)).1 ≠ v) := Lib.hid fun j hj => by
          rcases Nat.lt_or_ge j k with h | h
          · exact HR.out j h
          · obtain rfl : j = k := by omega
            rw [HY.out]; exact hyv
        clear hyv
        go_wp2_with ((go_at_call 21; refine (HB.out _).mono ?_; rintro e w' ⟨rfl, rfl⟩))
        go_roundw
        case rel => exact ⟨k + 1, by omega, by go_num, HF.out, by first | rfl | trivial⟩
        case measure => simp [intOf]; omega
    · have HF : Hid (FndR its v (-1)) := Lib.hid (.inr ⟨rfl, fun j hj => HR.out j (by have := HN.out; omega)⟩)
      go_wp2
      go_ret
      exact ⟨⟨_, rfl, HF.out⟩, rfl⟩
set_option maxHeartbeats 1000000 in
theorem r21_Level {w : World} {cb : Nat} {a d vL : Value} {its : List It} (h : Cop w cb a d vL its) (hs : SmI its) (hn9 : its.length ≤ 1000) (v : Int) :
    Calls Try.prog 20 #[.pointer (some ⟨cb, 0, none⟩), .int .i64 v] w fun e w' => e = .returned (.int .i64 (levR its v)) ∧ w = w' := by
  have HF := Lib.hid (r21_find h hs hn9 v)
  have c1 : w.cell? ⟨cb, 1, none⟩ = some vL := h.b.cell 1
  have HA := Lib.hid (fun k (hk : k < its.length) => h.at_ hk)
  obtain ⟨lv, hlv⟩ : ∃ lv, lv = levR its v := ⟨_, rfl⟩
  rw [← hlv]
  have HL := Lib.hid hlv
  clear h hs hlv
  go_enter Try.func20, Try.ntmps20
  go_wp2_with fail
  refine HF.out.mono ?_
  rintro e w1 ⟨⟨r, rfl, hr⟩, rfl⟩
  rcases hr with ⟨k, rfl, hk, hkv, hb⟩ | ⟨rfl, hb⟩
  · obtain ⟨g, cap, rfl, q0, q1, q2, q3⟩ := HA.out k hk
    have hl := levR_at hk hb hkv
    rw [← HL.out] at hl
    rw [← hl] at q1
    have hk2 : (k : Int) < (its.length : Int) := by omega
    obtain ⟨n, hn⟩ : ∃ n, n = its.length := ⟨_, rfl⟩
    rw [← hn] at c1 hk2 hk q3
    clear hl hkv hb hn q0 q2
    go_wp2
    go_ret
    exact ⟨rfl, rfl⟩
  · have hl := levR_none hb
    rw [← HL.out] at hl
    have HH := Lib.hid hl
    clear hl hb c1
    go_wp2
    go_ret
    exact ⟨by rw [HH.out]; rfl, rfl⟩
/-- Has a clause a variable of this level? -/
def anyLev (its : List It) (c : List Int) (x : Int) : Bool := c.any fun y => decide (levR its (absI y) = x)
set_option maxHeartbeats 4000000 in
set_option maxRecDepth 100000 in
theorem r23_Levels {w : World} {cb : Nat} {a vL v : Value} {d : Nat} {its : List It} {c : List Int} (h : Cop w cb a (.int .i64 d) vL its) (hs : SmI its) (hn9 : its.length ≤ 1000) (hd : d ≤ 1000) (hv : Ints w v c) (hcl : ClauseL c) (hn30 : c.length ≤ 30) :
    Calls Try.prog 8 #[.pointer (some ⟨cb, 0, none⟩), v] w fun e w' => e = .returned (.int .i64 (cntLev (anyLev its c) (d + 1))) ∧ w = w' := by
  have HL := Lib.hid (fun x => r21_Level h hs hn9 x)
  have c2 : w.cell? ⟨cb, 2, none⟩ = some (.int .i64 d) := h.b.cell 2
  have HCL := Lib.hid hcl
  obtain ⟨va, cap, rfl, -, hc1, hc2, hv⟩ := hv
  obtain ⟨n, hn⟩ : ∃ n, n = c.length := ⟨_, rfl⟩
  rw [← hn] at hc1 hn30 ⊢
  have HN := Lib.hid hn
  have HV := Lib.hid hv
  obtain ⟨ans, hans⟩ : ∃ ans, ans = cntLev (anyLev its c) (d + 1) := ⟨_, rfl⟩
  have hcb : ∀ k : Nat, 0 ≤ cntLev (anyLev its c) k ∧ cntLev (anyLev its c) k ≤ k := fun k => by
    induction k with
    | zero => exact ⟨Int.le_refl _, Int.le_refl _⟩
    | succ k ih => unfold cntLev; split <;> omega
  have HCB := Lib.hid hcb
  rw [← hans]
  have HANS := Lib.hid hans
  clear h hs hv hn hcl hans hcb
  go_enter Try.func8, Try.ntmps8
  go_wp2
  go_loopw [5, 6] (fun m i wr => ∃ k : Nat, k ≤ d + 1 ∧ i = .int .i64 k ∧ m = .int .i64 (cntLev (anyLev its c) k) ∧ wr = w) (fun _ i _ => d + 1 - (intOf i).toNat)
  case atStart => exact ⟨0, Nat.zero_le _, rfl, rfl, rfl⟩
  case round =>
    obtain ⟨k, hk, rfl, rfl, rfl⟩ := hrel
    obtain ⟨m, hm⟩ : ∃ m, m = cntLev (anyLev its c) k := ⟨_, rfl⟩
    have hmb := HCB.out k
    rw [← hm] at hmb ⊢
    have HM := Lib.hid hm
    clear hm
    obtain ⟨m0, m1⟩ := hmb
    by_cases hlt : (k : Int) ≤ (d : Int)
    · go_wp2
      obtain ⟨wo, hwo⟩ : ∃ wo : World, wo = wr := ⟨_, rfl⟩
      go_loopw [7, 8] (fun is j ws => ∃ i : Nat, i ≤ n ∧ j = .int .i64 i ∧ is = .bool (anyLev its (c.take i) (k : Int)) ∧ ws = wo) (fun _ j _ => n - (intOf j).toNat)
      case atStart => exact ⟨0, Nat.zero_le _, rfl, rfl, hwo.symm⟩
      case round =>
        obtain ⟨i, hi, rfl, rfl, rfl⟩ := hrel
        subst hwo
        obtain ⟨is, his⟩ : ∃ is, is = anyLev its (c.take i) (k : Int) := ⟨_, rfl⟩
        rw [← his]
        have HIS := Lib.hid his
        clear his
        by_cases hlt2 : (i : Int) < (n : Int)
        · have hin : i < c.length := by have := HN.out; omega
          obtain ⟨b, off, rfl, hcell⟩ := ints_cells HV.out hin
          have q1 := hcell wr (Below.refl _ _)
          obtain ⟨x, hx⟩ : ∃ x, x = c.getD i 0 := ⟨_, rfl⟩
          have hxs : small x := by rw [hx]; exact small_at HCL.out hin
          rw [← hx] at q1
          have HA := Lib.hid (fun W => r17_Abs x hxs W)
          have HLX := Lib.hid (HL.out (absI x))
          have hst : anyLev its (c.take (i + 1)) (k : Int) = (is || decide (levR its (absI x) = (k : Int))) := by
            rw [take_snocI hin, HIS.out, hx]; unfold anyLev; rw [List.any_append]; simp
          have HST := Lib.hid hst
          obtain ⟨lv, hlv⟩ : ∃ lv, lv = levR its (absI x) := ⟨_, rfl⟩
          rw [← hlv] at HLX HST
          obtain ⟨y, hy⟩ : ∃ y, y = absI x := ⟨_, rfl⟩
          rw [← hy] at HA HLX
          clear hcell hx hxs hst hlv hy hin
          cases is
          · go_wp2_with (first | (go_at_call 21; refine (HA.out _).mono ?_; rintro e w' ⟨rfl, rfl⟩) | (go_at_call 20; refine (HLX.out).mono ?_; rintro e w' ⟨rfl, rfl⟩))
            go_roundw
            case rel => exact ⟨i + 1, by omega, by go_num, (by rw [HST.out]; (try simp); (try rfl)), by first | rfl | trivial⟩
            case measure => simp [intOf]; omega
          · go_wp2
            go_roundw
            case rel => exact ⟨i + 1, by omega, by go_num, (by rw [HST.out]; (try simp); (try rfl)), by first | rfl | trivial⟩
            case measure => simp [intOf]; omega
        · have HF : Hid (cntLev (anyLev its c) (k + 1) = m + (if is = true then 1 else 0)) := Lib.hid (by
            unfold cntLev
            rw [← HM.out, HIS.out, List.take_of_length_le (show c.length ≤ i by have := HN.out; omega)])
          cases is
          · go_wp2
            go_roundw
            case rel => exact ⟨k + 1, by omega, by go_num, (by rw [HF.out]; try simp), by first | rfl | trivial⟩
            case measure => simp [intOf]; omega
          · go_wp2
            go_roundw
            case rel => exact ⟨k + 1, by omega, by go_num, (by rw [HF.out]; try simp), by first | rfl | trivial⟩
            case measure => simp [intOf]; omega
    · have HF : Hid (m = ans) := Lib.hid (by rw [HM.out, HANS.out, show k = d + 1 by omega])
      go_wp2
      go_ret
      exact ⟨by rw [HF.out]; rfl, rfl⟩
end Go.Proofs.Ytghlgegfokjgbaa
