/-
  Checkers of proofs, plainly: the clauses by which one is false.
-/
import Derived.Test.YtknpfopepedmmaaRuK
import Derived.Test.YtknpfopepedmmaaShelf
import Derived.Test.YtknpfopepedmmaaRvB
import Derived.Deep.LoopGhost
namespace Go.Proofs.Ytknpfopepedmmaa
set_option linter.unusedVariables false
set_option linter.unusedSimpArgs false
/-- One literal's clause is among some. -/
def CovL (S : RS) (seen : List Nat) (l : Int) : Prop := ∀ i, i < S.tr.length → ((S.tr.getD i (0, 0)).1 = l ∨ (S.tr.getD i (0, 0)).1 = -l) → (S.tr.getD i (0, 0)).2 = -1 ∨ ∃ k ∈ seen, (S.tr.getD i (0, 0)).2 = ((k : Nat) : Int)
theorem CovL.mono {S : RS} {a b : List Nat} {l : Int} (h : CovL S a l) (hs : ∀ k ∈ a, k ∈ b) : CovL S b l := fun i hi hv => by
  rcases h i hi hv with e | ⟨k, hk, e⟩
  · exact .inl e
  · exact .inr ⟨k, hs k hk, e⟩
/-- Which clauses come by which others. -/
inductive Reach (S : RS) (id : Nat) : Nat → Prop
  | start : Reach S id id
  | step {j b i : Nat} {l : Int} : Reach S id j → l ∈ S.c j → i < S.tr.length → ((S.tr.getD i (0, 0)).1 = l ∨ (S.tr.getD i (0, 0)).1 = -l) → (S.tr.getD i (0, 0)).2 = (b : Int) → Reach S id b
/-- What has been seen, and what of it is left. -/
structure ReS (S : RS) (id : Nat) (seen left : List Nat) : Prop where
  nd : seen.Nodup
  idm : id ∈ seen
  lf : ∀ j ∈ left, j ∈ seen
  ok : ∀ j ∈ seen, j < S.cl.length ∧ S.onA j = true ∧ AllIn S j
  done : ∀ j ∈ seen, j ∉ left → ∀ l ∈ S.c j, CovL S seen l
  ll : left.length ≤ seen.length
  rch : ∀ x ∈ seen, Reach S id x
/-- The same amid a clause. -/
structure ReK (S : RS) (id : Nat) (seen left : List Nat) (j k : Nat) : Prop where
  nd : seen.Nodup
  idm : id ∈ seen
  jm : j ∈ seen
  lf : ∀ x ∈ left, x ∈ seen
  ok : ∀ x ∈ seen, x < S.cl.length ∧ S.onA x = true ∧ AllIn S x
  done : ∀ x ∈ seen, x ∉ left → x ≠ j → ∀ l ∈ S.c x, CovL S seen l
  part : ∀ l ∈ (S.c j).take k, CovL S seen l
  ll : left.length ≤ seen.length
  rch : ∀ x ∈ seen, Reach S id x
theorem ReS.start {S : RS} {id : Nat} (h1 : id < S.cl.length) (h2 : S.onA id = true) (h3 : AllIn S id) : ReS S id [id] [id] :=
  ⟨by simp, by simp, fun j hj => hj, fun j hj => by rw [List.mem_singleton.1 hj]; exact ⟨h1, h2, h3⟩, fun j hj hn => absurd hj hn, Nat.le_refl _, fun x hx => by rw [List.mem_singleton.1 hx]; exact .start⟩
theorem ReS.pop {S : RS} {id : Nat} {seen left : List Nat} {j : Nat} (h : ReS S id seen (left ++ [j])) : ReK S id seen left j 0 :=
  ⟨h.nd, h.idm, h.lf j (by simp), fun x hx => h.lf x (by simp [hx]), h.ok, fun x hx hn hne => h.done x hx (by simp [hn, hne]), fun l hl => by simp at hl, by have := h.ll; rw [List.length_append, List.length_singleton] at this; omega, h.rch⟩
theorem ReK.back {S : RS} {id : Nat} {seen left : List Nat} {j k : Nat} (h : ReK S id seen left j k) (hk : (S.c j).length ≤ k) : ReS S id seen left :=
  ⟨h.nd, h.idm, h.lf, h.ok, fun x hx hn l hl => by
    by_cases e : x = j
    · subst e
      exact h.part l (by rw [List.take_of_length_le hk]; exact hl)
    · exact h.done x hx hn e l hl, h.ll, h.rch⟩
theorem ReK.same {S : RS} {id : Nat} {seen left : List Nat} {j k : Nat} (h : ReK S id seen left j k) {hk : k < (S.c j).length} (hc : CovL S seen ((S.c j).getD k 0)) : ReK S id seen left j (k + 1) :=
  ⟨h.nd, h.idm, h.jm, h.lf, h.ok, h.done, fun l hl => by
    rw [List.take_succ_eq_append_getElem hk] at hl
    rcases List.mem_append.1 hl with hl | hl
    · exact h.part l hl
    · have e : l = (S.c j).getD k 0 := by rw [List.mem_singleton.1 hl, List.getD_eq_getElem?_getD, List.getElem?_eq_getElem hk]; rfl
      rw [e]; exact hc, h.ll, h.rch⟩
theorem ReK.more {S : RS} {id : Nat} {seen left : List Nat} {j k : Nat} (h : ReK S id seen left j k) (hk : k < (S.c j).length) {b : Nat} (hb : b ∉ seen) (h1 : b < S.cl.length ∧ S.onA b = true ∧ AllIn S b) (hc : CovL S (seen ++ [b]) ((S.c j).getD k 0)) (hr : ∃ i, i < S.tr.length ∧ ((S.tr.getD i (0, 0)).1 = (S.c j).getD k 0 ∨ (S.tr.getD i (0, 0)).1 = -(S.c j).getD k 0) ∧ (S.tr.getD i (0, 0)).2 = (b : Int)) : ReK S id (seen ++ [b]) (left ++ [b]) j (k + 1) :=
  ⟨by rw [List.nodup_append]; exact ⟨h.nd, by simp, fun a ha c hc e => by rw [List.mem_singleton.1 hc] at e; rw [e] at ha; exact hb ha⟩,
   by simp [h.idm], by simp [h.jm], fun x hx => by
    rcases List.mem_append.1 hx with hx | hx
    · exact List.mem_append.2 (.inl (h.lf x hx))
    · exact List.mem_append.2 (.inr hx),
   fun x hx => by
    rcases List.mem_append.1 hx with hx | hx
    · exact h.ok x hx
    · rw [List.mem_singleton.1 hx]; exact h1,
   fun x hx hn hne l hl => by
    rcases List.mem_append.1 hx with hx | hx
    · exact (h.done x hx (fun e => hn (List.mem_append.2 (.inl e))) hne l hl).mono (fun y hy => List.mem_append.2 (.inl hy))
    · exact absurd (List.mem_append.2 (.inr hx)) hn,
   fun l hl => by
    rw [List.take_succ_eq_append_getElem hk] at hl
    rcases List.mem_append.1 hl with hl | hl
    · exact (h.part l hl).mono (fun y hy => List.mem_append.2 (.inl hy))
    · have e : l = (S.c j).getD k 0 := by rw [List.mem_singleton.1 hl, List.getD_eq_getElem?_getD, List.getElem?_eq_getElem hk]; rfl
      rw [e]; exact hc, by simp only [List.length_append, List.length_singleton]; have := h.ll; omega, fun x hx => by
    rcases List.mem_append.1 hx with hx | hx
    · exact h.rch x hx
    · obtain ⟨i, r1, r2, r3⟩ := hr
      rw [List.mem_singleton.1 hx]
      exact .step (h.rch j h.jm) (by rw [List.getD_eq_getElem?_getD, List.getElem?_eq_getElem hk]; exact List.getElem_mem hk) r1 r2 r3⟩
/-- The clauses by which one is false, and no others. -/
def RsX (S : RS) (id : Nat) (R : List Nat) : Prop := RsP S id R ∧ ∀ x ∈ R, Reach S id x
theorem ReS.fin {S : RS} {id : Nat} {seen : List Nat} (h : ReS S id seen []) {R : List Nat} (hR : ∀ x, x ∈ R ↔ x ∈ seen) : RsX S id R :=
  ⟨⟨(hR id).2 h.idm, fun j hj => by
    have hs := (hR j).1 hj
    obtain ⟨a, b, -⟩ := h.ok j hs
    refine ⟨a, b, fun l hl i hi hv => ?_⟩
    rcases h.done j hs (by simp) l hl i hi hv with e | ⟨k, hk, e⟩
    · exact .inl e
    · exact .inr ⟨k, (hR k).2 hk, e⟩⟩, fun x hx => h.rch x ((hR x).1 hx)⟩
theorem RsX.all {S : RS} {id : Nat} {R : List Nat} (h : RsX S id R) (x : Nat) : x ∈ R ↔ Reach S id x := by
  refine ⟨h.2 x, fun hr => ?_⟩
  induction hr with
  | start => exact h.1.1
  | step hj hl hi hv hb ih =>
    rcases (h.1.2 _ ih).2.2 _ hl _ hi hv with e | ⟨k, hk, e⟩
    · rw [hb] at e; omega
    · rw [hb] at e
      have : _ = k := Int.ofNat.inj e
      rw [this]; exact hk
/-- By which clause a literal that is assigned came. -/
theorem mark_by {S : RS} {A : List Int} (h : RInv S A) {l : Int} (hl : lit30 l) (hin : l ∈ S.T ∨ -l ∈ S.T) :
    ∃ p : Bool × Int, markF S (vr l) = some p ∧ (p.2 = -1 ∧ (∀ seen, CovL S seen l) ∨ ∃ b : Nat, p.2 = (b : Int) ∧ b < S.cl.length ∧ S.onA b = true ∧ AllIn S b ∧ (∃ i, i < S.tr.length ∧ ((S.tr.getD i (0, 0)).1 = l ∨ (S.tr.getD i (0, 0)).1 = -l) ∧ (S.tr.getD i (0, 0)).2 = (b : Int)) ∧ ∀ seen, b ∈ seen → CovL S seen l) := by
  obtain ⟨i, hi, hv⟩ : ∃ i, i < S.tr.length ∧ ((S.tr.getD i (0, 0)).1 = l ∨ (S.tr.getD i (0, 0)).1 = -l) := by
    rcases hin with hin | hin
    · obtain ⟨i, hi, e⟩ := mem_T hin
      exact ⟨i, hi, .inl e⟩
    · obtain ⟨i, hi, e⟩ := mem_T hin
      exact ⟨i, hi, .inr e⟩
  have hp := vr_pos hl.1
  have vrs : ∀ x : Int, (x = l ∨ x = -l) → (x = vr l ∨ x = -vr l) := fun x hx => by unfold vr; omega
  have hf := find_T h.con hi (v := vr l) (vrs _ hv)
  have uniq : ∀ q, q < S.tr.length → ((S.tr.getD q (0, 0)).1 = l ∨ (S.tr.getD q (0, 0)).1 = -l) → S.tr.getD q (0, 0) = S.tr.getD i (0, 0) := fun q hq hqv => by
    have := find_T h.con hq (v := vr l) (vrs _ hqv)
    rw [hf] at this
    injection this with this
    exact this.symm
  refine ⟨(decide (0 < (S.tr.getD i (0, 0)).1), (S.tr.getD i (0, 0)).2), ?_, ?_⟩
  · unfold markF
    rw [if_neg (by omega), hf]; rfl
  · rcases h.just i hi with ⟨e, -, -⟩ | ⟨k, k1, k2, k3, -, -⟩
    · exact .inl ⟨e, fun seen q hq hqv => .inl (by rw [uniq q hq hqv]; exact e)⟩
    · refine .inr ⟨k, k1, k2, k3, (just_allIn h hi k1).1, ⟨i, hi, hv, k1⟩, fun seen hs q hq hqv => .inr ⟨k, hs, by rw [uniq q hq hqv]; exact k1⟩⟩
theorem seen_len {S : RS} {seen : List Nat} (nd : seen.Nodup) (ok : ∀ j ∈ seen, j < S.cl.length ∧ S.onA j = true ∧ AllIn S j) : seen.length ≤ S.cl.length := by
  have := nd.length_le_of_subset (l₂ := List.range S.cl.length) (fun j hj => List.mem_range.2 (ok j hj).1)
  simpa using this
def setF (seen : List Nat) (x : Int) : Option Bool := if 0 ≤ x ∧ x.toNat ∈ seen then some true else none
theorem setF_more (seen : List Nat) (b : Nat) : setF (seen ++ [b]) = upd (setF seen) (b : Int) (some true) := by
  funext x
  show (if 0 ≤ x ∧ x.toNat ∈ seen ++ [b] then some true else none) = if x = (b : Int) then some true else (if 0 ≤ x ∧ x.toNat ∈ seen then some true else none)
  by_cases e : x = (b : Int)
  · rw [if_pos e, if_pos ⟨by omega, by rw [e]; simp⟩]
  · rw [if_neg e]
    by_cases h0 : 0 ≤ x
    · have : x.toNat ∈ seen ++ [b] ↔ x.toNat ∈ seen := by
        rw [List.mem_append, List.mem_singleton]
        exact ⟨fun h => h.resolve_right (by omega), .inl⟩
      by_cases h1 : x.toNat ∈ seen
      · rw [if_pos ⟨h0, this.2 h1⟩, if_pos ⟨h0, h1⟩]
      · rw [if_neg (fun h => h1 (this.1 h.2)), if_neg (fun h => h1 h.2)]
    · rw [if_neg (fun h => h0 h.1), if_neg (fun h => h0 h.1)]
end Go.Proofs.Ytknpfopepedmmaa
/-
  Package slices: the keys of a map, in order.
-/
namespace Go.Proofs.Ytknpfopepedmmaa
open Go Go.ChangeShapes Go.WideShapes Go.ChangeAt Go.RowKit Go.Maps Go.Sort Go.Shelf
set_option linter.unusedVariables false
set_option linter.unusedSimpArgs false
theorem sortsA (m : Nat) : AnyZI.SortsIn Try.prog Try.sortedA_ren Fence.wide m :=
  ⟨fun blk off cap ss W hH hblk hsz => callsIn_wide.2 (AnyM.slices_Sort_int Try.sortA blk off cap ss W hH hblk hsz),
   fun p cap W => callsIn_wide.2 (AnyM.slices_Sort_int_none Try.sortA p cap W)⟩
theorem keys_ (mb : Option Nat) (W : World) : Calls Try.prog 71 #[.map mb] W fun e w' => e = .returned (.func (.func 84) #[] #[.pointer (some ⟨W.heap.size, 0, none⟩)]) ∧ w' = W.alloc (.cells #[.map mb] 68) :=
  (callsIn_wide (n := 5)).1 (AnyZI.keys_in Try.keysA Fence.wide 5 trivial rfl mb W)
theorem intKeys_dat {α : Type} (dv : α → DataW Unit) (cs : List (Int × α)) : intKeys (datF dv cs) = cs.map (·.1) := by
  show (cs.map (entF dv)).map (fun p => Go.intOf p.1) = _
  rw [List.map_map]
  rfl
/-- The keys of a set, in order. -/
def SrtQ (w : World) (seen : List Nat) (e : Ending) (w' : World) : Prop :=
  ∃ (v : Value) (R : List Nat), e = .returned v ∧ Row w' 3 1 v R.length (R.map fun i : Nat => iv (i : Nat)) ∧ (∀ g, v.ownBlock = some g → w.heap.size ≤ g) ∧ R.Pairwise (· < ·) ∧ (∀ x, x ∈ R ↔ x ∈ seen) ∧ Below w.heap.size w w'
theorem sorted_ {w : World} {b n : Nat} {seen : List Nat} (h : MapF eBool w b n (setF seen)) (hn : n ≤ 1000000) :
    Calls Try.prog 70 #[.func (.func 84) #[] #[.pointer (some ⟨w.heap.size, 0, none⟩)]] (w.alloc (.cells #[.map (some b)] 68)) (SrtQ w seen) := by
  have hbl := h.lt
  obtain ⟨cs, hown, hnd, hf⟩ := h
  have hsz : Maps.size (datF eBool.dv cs) ≤ 1000000 := by
    have := hown.size_le
    omega
  have hseq : SeqGives Fence.wide 2 Try.prog 84 #[.pointer (some ⟨w.heap.size, 0, none⟩)] encZ (fun ss => ss.Perm (intKeys (datF eBool.dv cs))) (Maps.size (datF eBool.dv cs)) (w.alloc (.cells #[.map (some b)] 68)) :=
    AnyZI.keys_gives (ρ := Try.keysA_ren) { Try.keysA with } Fence.wide _ trivial rfl (by omega) w.heap.size b n (datF eBool.dv cs) _ (by simp) (by simp) (by
      obtain ⟨es, clock, hb, Ft, hs, hD⟩ := hown
      exact ⟨es, clock, (Below.heap_alloc _ _ b hbl).trans hb, Ft, hs, hD⟩)
  have cS := AnyZI.sorted_in Try.sortedA Fence.wide 5 trivial trivial trivial trivial rfl (by omega) (sortsA _) (enters_of Try.func83 (by kernel_rfl) rfl) 84 #[.pointer (some ⟨w.heap.size, 0, none⟩)] trivial (enters_of Try.func84 (by kernel_rfl) rfl) _ _ (by unfold maxLen; omega) (by omega) _ hseq
  refine ((callsIn_wide (n := 5)).1 cS).mono ?_
  rintro e w' ⟨v, ss, rfl, hS, hrow, hnil, hb⟩
  rw [intKeys_dat] at hS
  obtain ⟨L, hL⟩ : ∃ L, L = ss.mergeSort fun x y => decide (x ≤ y) := ⟨_, rfl⟩
  rw [← hL] at hrow
  have hpL : L.Perm (cs.map (·.1)) := by rw [hL]; exact (List.mergeSort_perm _ _).trans hS
  have hndL : L.Nodup := hpL.nodup_iff.2 hnd
  have hsL : L.Pairwise fun x y => (decide (x ≤ y)) = true := by
    rw [hL]
    exact List.pairwise_mergeSort (fun a b c h1 h2 => by simp at *; omega) (fun a b => by simp; omega) ss
  have hmem : ∀ x, x ∈ L ↔ 0 ≤ x ∧ x.toNat ∈ seen := fun x => by
    rw [hpL.mem_iff, mem_keys, ← hf]
    unfold setF
    split
    · rename_i h; exact ⟨fun _ => h, fun _ => rfl⟩
    · rename_i h; exact ⟨fun e => by simp at e, fun e => absurd e h⟩
  have hle : ss.length = (L.map Int.toNat).length := by rw [List.length_map, hL, List.length_mergeSort]
  have hmap : L.map encZ = (L.map Int.toNat).map fun i : Nat => iv (i : Nat) := by
    rw [List.map_map]
    apply List.map_congr_left
    intro x hx
    have := ((hmem x).1 hx).1
    show Value.int .i64 x = Value.int .i64 ((x.toNat : Nat) : Int)
    rw [Int.toNat_of_nonneg this]
  rw [hmap, hle] at hrow
  refine ⟨v, L.map Int.toNat, rfl, ?_, fun g hg => ?_, ?_, fun x => ?_, ?_⟩
  · exact ownsRow_base_a hrow (Nat.zero_le _)
  · have := (World.ownsRow.lt hrow g hg).1
    simp at this
    omega
  · rw [List.pairwise_map]
    refine (List.Pairwise.and_mem.1 (hsL.and hndL)).imp ?_
    rintro a b ⟨ha, hb', h1, h2⟩
    have a0 := ((hmem a).1 ha).1
    have b0 := ((hmem b).1 hb').1
    have h1 : a ≤ b := of_decide_eq_true h1
    omega
  · rw [List.mem_map]
    constructor
    · rintro ⟨y, hy, rfl⟩
      exact ((hmem y).1 hy).2
    · intro hx
      exact ⟨(x : Int), (hmem _).2 ⟨by omega, by rw [Int.toNat_natCast]; exact hx⟩, by omega⟩
  · exact ((Below.refl _ w).alloc (Nat.le_refl _) _).trans (hb.mono (by simp))
end Go.Proofs.Ytknpfopepedmmaa
/-
  Package rup: by which clauses one is false, walked.
-/
namespace Go.Proofs.Ytknpfopepedmmaa
open Go Go.ChangeShapes Go.WideShapes Go.ChangeAt Go.RowKit Go.Maps
set_option linter.unusedVariables false
set_option linter.unusedSimpArgs false
theorem fld1 (b : Bool) (n : Int) (W : World) : (Instr.field 77 (.agg #[.bool b, .int .i64 n]) 1).run Try.prog W = .ok (.int .i64 n) W := by kernel_rfl
/-- What has been seen, and what is left, in memory. -/
structure RM (w wr : World) (bs : Nat) (seen left : List Nat) (v : Value) : Prop where
  m : MapF eBool wr bs seen.length (setF seen)
  l : Row wr 3 1 v left.length (left.map fun i : Nat => iv (i : Nat))
  o : ∀ g, v.ownBlock = some g → w.heap.size ≤ g ∧ g ≠ bs
  b : Below w.heap.size w wr
  s : w.heap.size ≤ bs
theorem Row.lone (w : World) (e : TypeId) (x : Value) : Row (w.alloc (.cells #[x] e)) e 1 (.slice (some ⟨w.heap.size, 0, none⟩) 1 1) 1 [x] :=
  ⟨rfl, .inr ⟨w.heap.size, 1, #[x], rfl, Nat.zero_le _, heap_alloc_new w _, Nat.le_refl _, by decide, rfl, rfl⟩⟩
section
variable {w wr : World} {bs : Nat} {seen left : List Nat} {v : Value}
theorem RM.below (h : RM w wr bs seen left v) {w2 : World} (hb : Below wr.heap.size wr w2) : RM w w2 bs seen left v := by
  have hc : Chg (fun _ => False) wr w2 := Chg.of_below hb
  exact ⟨h.m.chg hc (fun e => e), h.l.chg hc (fun _ _ e => e), h.o, h.b.trans (hb.mono h.b.size), h.s⟩
theorem RM.more (h : RM w wr bs seen left v) {b : Nat} {w2 w3 : World} {v' : Value} (hm : MapF eBool w2 bs (seen.length + 1) (upd (setF seen) (b : Int) (some true))) (hc : Chg (fun k => k = bs) wr w2)
    (hp : AppPost (w2.alloc (.cells #[.int .i64 (b : Nat)] 3)) 3 1 v (left.length + 1) ((left.map fun i : Nat => iv (i : Nat)) ++ [.int .i64 (b : Nat)]) v' w3) : RM w w3 bs (seen ++ [b]) (left ++ [b]) v' := by
  obtain ⟨p1, p2, p3⟩ := hp
  have hsz : wr.heap.size < (w2.alloc (.cells #[.int .i64 (b : Nat)] 3)).heap.size := by have := hc.size; simp; omega
  have hb1 := h.b.size
  have hs := h.s
  have hbs := h.m.lt
  refine ⟨?_, ?_, fun g hg => ?_, ?_, hs⟩
  · rw [List.length_append, List.length_singleton, setF_more]
    exact (hm.chg (S := fun _ => False) ((Chg.refl (fun _ => False) w2).alloc _) (fun e => e)).chg p2 (fun e => (h.o _ e).2 rfl)
  · rw [List.length_append, List.length_singleton, List.map_append]
    exact p1
  · rcases p3 with e | e
    · exact h.o g (by rw [← e]; exact hg)
    · rw [e] at hg
      injection hg with hg
      exact ⟨by omega, by omega⟩
  · refine h.b.trans ?_
    have c1 : Chg (fun k => k = bs ∨ v.ownBlock = some k) wr w3 := ((hc.mono (S' := fun k => k = bs ∨ v.ownBlock = some k) (fun i hi => .inl hi)).alloc _).trans p2 (fun i hi => .inl (.inr hi))
    refine c1.below hb1 (fun i hi => ?_)
    rcases hi with e | e
    · omega
    · exact (h.o i e).1
theorem RM.nil (h : RM w wr bs seen [] v) : ∃ a c, v = .slice a 0 c := by
  rcases h.l.form with ⟨e, e0, -⟩ | ⟨g, cap, e, -⟩
  · exact ⟨none, 0, e⟩
  · exact ⟨_, _, e⟩
theorem RM.form (h : RM w wr bs seen left v) : ∃ a c, v = .slice a left.length c := by
  rcases h.l.form with ⟨e, e0, -⟩ | ⟨g, cap, e, -⟩
  · exact ⟨none, 0, by rw [e, e0]⟩
  · exact ⟨_, _, e⟩
theorem RM.pop {j : Nat} (h : RM w wr bs seen (left ++ [j]) v) : ∃ g cap, v = .slice (some ⟨g, 0, none⟩) (left.length + 1) cap ∧ left.length + 1 ≤ cap ∧ wr.cell? ⟨g, left.length, none⟩ = some (.int .i64 (j : Nat)) ∧ RM w wr bs seen left (.slice (some ⟨g, 0, none⟩) left.length cap) := by
  have hl := h.l
  rw [List.length_append, List.length_singleton] at hl
  obtain ⟨g, cap, hv, hc, -, -⟩ := hl.some_ (by omega)
  subst hv
  refine ⟨g, cap, rfl, hc, ?_, ⟨h.m, ?_, h.o, h.b, h.s⟩⟩
  · rw [(hl.at1 left.length (by omega)).1, List.map_append, List.getD_eq_getElem?_getD, List.getElem?_append_right (by simp)]
    simp [iv]
  · have := hl.take left.length (by omega)
    rw [Nat.mul_one, List.map_append, List.take_append_of_le_length (by simp), List.take_of_length_le (by simp)] at this
    exact this
end
/-- What the clauses come to. -/
def ReasQ (w : World) (S : RS) (id : Nat) (e : Ending) (w' : World) : Prop :=
  ∃ (v : Value) (R : List Nat), e = .returned v ∧ Row w' 3 1 v R.length (R.map fun i : Nat => iv (i : Nat)) ∧ (∀ g, v.ownBlock = some g → w.heap.size ≤ g) ∧ R.Pairwise (· < ·) ∧ RsX S id R ∧ Below w.heap.size w w'
section
variable {w : World} {r : Nat} {S : RS} {vl vt : Value} {bt bo bm nt no nm : Nat} {us : List Value} {ho : (Int → Option (Option (Nat × Nat × Nat)))}
theorem us_ints (h : KP w r S vl vt bt bo bm nt no nm us ho) {i : Nat} (hi : i < S.cl.length) : Ints w (us.getD i undef) (S.c i) := (h.c.2 i hi).1
theorem us_cell (h : KP w r S vl vt bt bo bm nt no nm us ho) {i : Nat} (hi : i < S.cl.length) : ∃ g cap, vl = .slice (some ⟨g, 0, none⟩) S.cl.length cap ∧ w.cell? ⟨g, i, none⟩ = some (us.getD i undef) := by
  rcases h.l.form with ⟨-, h0, -⟩ | ⟨g, cap, e, -, -, -, hc⟩
  · omega
  · exact ⟨g, cap, e, (hc i (by rw [h.c.1]; exact hi)).1⟩
theorem us_val (h : KP w r S vl vt bt bo bm nt no nm us ho) {i : Nat} (hi : i < S.cl.length) : ∃ a c2, us.getD i undef = .slice a (S.c i).length c2 := by
  obtain ⟨a, c2, e, -⟩ := us_ints h hi
  exact ⟨a, c2, e⟩
set_option maxHeartbeats 8000000 in
set_option maxRecDepth 100000 in
theorem reasons_ {A : List Int} (h : KP w r S vl vt bt bo bm nt no nm us ho) (hI : RInv S A) (hcl : S.cl.length ≤ 1000000) {id : Nat} (h1 : id < S.cl.length) (h2 : S.onA id = true) (h3 : AllIn S id) :
    Calls Try.prog 47 #[kp r, .int .i64 (id : Nat)] w (ReasQ w S id) := by
  have hmm := @run_makeMap Try.prog
  have hfl := fld1
  have hS0 := ReS.start h1 h2 h3
  have hid : id ≤ 1000000 := by omega
  obtain ⟨w1, hst, hm1, hc1⟩ := (MapF.made eBool w).store tmB (by unfold maxLen; omega) (x := (id : Int)) ⟨by omega, by omega⟩ true
  replace hst : (Instr.mapUpdate 68 (.map (some w.heap.size)) (.int .i64 (id : Nat)) (.bool true)).run Try.prog (w.alloc (.map #[] 0)) = .ok () w1 := hst
  obtain ⟨bs, hbs⟩ : ∃ bs, bs = w.heap.size := ⟨_, rfl⟩
  have hb1 : Below w.heap.size w w1 := ((Below.refl _ w).alloc (Nat.le_refl _) _).trans (hc1.below (B := w.heap.size) (by simp) (fun i hi => by omega))
  have hR0 : RM w (w1.alloc (.cells #[.int .i64 (id : Nat)] 3)) bs [id] [id] (.slice (some ⟨w1.heap.size, 0, none⟩) 1 1) := by
    have hs1 := hc1.size
    have e : setF [id] = upd (fun _ => none) (id : Int) (some true) := by
      have := setF_more [] id
      rw [List.nil_append] at this
      rw [this]
      congr 1
      funext x; simp [setF]
    refine ⟨?_, Row.lone _ _ _, fun g hg => ?_, hb1.alloc hb1.size _, by omega⟩
    · rw [e, hbs]
      exact hm1.chg (S := fun _ => False) ((Chg.refl (fun _ => False) w1).alloc _) (fun e => e)
    · simp [Value.ownBlock] at hg
      simp at hs1
      exact ⟨by omega, by omega⟩
  have HR0 := Lib.hid hR0
  have HS0 := Lib.hid hS0
  have HK := Lib.hid h
  have HI := Lib.hid hI
  have HCL := Lib.hid hcl
  have HBS := Lib.hid hbs
  obtain ⟨N, hN⟩ : ∃ N, N = S.cl.length := ⟨_, rfl⟩
  have HN := Lib.hid hN
  have hN9 : N ≤ 1000000 := by omega
  clear h hI hcl h1 h2 h3 hS0 hR0 hm1 hc1 hb1 hN hbs
  go_enter Try.func47, Try.ntmps47
  go_wp2
  go_step3
  go_wp2
  go_step3
  have hbs := HBS.out
  rw [← hbs]
  clear hbs hst hmm
  go_wp2
  go_loopg [6] (2 * N + 1) (fun gg v wr => ∃ seen left : List Nat, ReS S id seen left ∧ RM w wr bs seen left v ∧ 2 * (N - seen.length) + left.length ≤ gg)
  case atStart => exact ⟨[id], [id], HS0.out, HR0.out, by simp; omega⟩
  case round =>
    obtain ⟨seen, left, hS, hR, hG⟩ := hrel
    have HG := Lib.hid hG
    rcases List.eq_nil_or_concat left with e | ⟨lf, j, e⟩
    · subst e
      obtain ⟨av, cv, hv⟩ := hR.nil
      subst hv
      have HKY := Lib.hid (keys_ (some bs) wr)
      have HSR := Lib.hid (sorted_ hR.m (by have := seen_len hS.nd hS.ok; have := HCL.out; omega))
      have HB := Lib.hid hR.b
      have HS := Lib.hid hS
      clear hR hS hG
      go_wp2_with fail
      refine HKY.out.mono ?_
      rintro e w2 ⟨rfl, rfl⟩
      go_wp2_with fail
      refine HSR.out.mono ?_
      rintro e w3 ⟨v, R, rfl, hrow, hown, hp, hmem, hb3⟩
      have HF : Hid (ReasQ w S id (.returned v) w3) := Lib.hid ⟨v, R, rfl, hrow, fun g hg => Nat.le_trans HB.out.size (hown g hg), hp, HS.out.fin hmem, HB.out.trans (hb3.mono HB.out.size)⟩
      clear hrow hown hp hmem hb3
      go_wp2
      try rw [Exit.noGoto_ret]
      go_ret
      exact HF.out
    · rw [List.concat_eq_append] at e
      subst e
      obtain ⟨gv, cap, hv, hcap, qv, hR2⟩ := hR.pop
      have hSK := hS.pop
      have hjl : j < S.cl.length := (hS.ok j (hS.lf j (by simp))).1
      have hjA : AllIn S j := (hS.ok j (hS.lf j (by simp))).2.2
      have hk := HK.out.below hR.b
      obtain ⟨gl, cl, hvl, qu⟩ := us_cell hk hjl
      obtain ⟨au, cu, hue⟩ := us_val hk hjl
      rw [hue] at qu
      have c0 : wr.cell? ⟨r, 0, none⟩ = some vl := hk.b.cell 0
      rw [hvl, ← HN.out] at c0
      rw [List.length_append, List.length_singleton] at hG
      obtain ⟨p, hp⟩ : ∃ p, p = lf.length := ⟨_, rfl⟩
      obtain ⟨q, hq⟩ : ∃ q, q = p + 1 := ⟨_, rfl⟩
      rw [← hp] at hv hcap qv hR2 hG
      rw [← hq] at hv hcap
      have hp9 : p ≤ 1000000 := by have h1 := hS.ll; have h2 := seen_len hS.nd hS.ok; rw [List.length_append, List.length_singleton] at h1; have := HCL.out; omega
      have hw1 : IntKind.i64.wrap ((q : Int) - 1) = (p : Int) := by rw [IntWalk.i64_in _ (by omega)]; omega
      have hq0 : (0 : Int) < (q : Int) := by omega
      have hpq : (p : Int) < (q : Int) := by omega
      have hpc : (p : Int) ≤ (cap : Int) := by omega
      have hjn : (j : Int) < (N : Int) := by have := HN.out; omega
      obtain ⟨n, hn⟩ : ∃ n, n = (S.c j).length := ⟨_, rfl⟩
      have hn9 : n ≤ 9223372036854775807 := by
        obtain ⟨a, c, -, -, h1, h2, -⟩ := us_ints hk hjl
        rw [hn]; exact Nat.le_trans h1 h2
      rw [← hn] at qu hue
      have HR2 := Lib.hid hR2
      have HSK := Lib.hid hSK
      have HJL := Lib.hid hjl
      have HJA := Lib.hid hjA
      have HU := Lib.hid hue
      have HQ := Lib.hid hq
      have HP := Lib.hid hp
      have HGG := Lib.hid hG
      have HNN := Lib.hid hn
      subst hv
      clear hS hR hSK hk hue hR2 hq hp hG hjl hjA hvl hn HG
      go_wp2_with fail
      go_quiet (fail)
      rename_i nq
      obtain ⟨w4, hw4⟩ : ∃ w4, w4 = wr.drewN nq := ⟨_, rfl⟩
      have hb4 : Below wr.heap.size wr w4 := by rw [hw4]; exact below_drewN (Below.refl _ wr) nq
      have HR4 := Lib.hid (HR2.out.below hb4)
      rw [← hw4]
      clear qv c0 qu hw4
      have HA4 : Hid (ReK S id seen lf j 0 ∧ 2 * (N - seen.length) + lf.length ≤ 2 * (N - seen.length) + p) := Lib.hid ⟨HSK.out, by rw [HP.out]; exact Nat.le_refl _⟩
      obtain ⟨gg, hgg⟩ : ∃ gg, gg = 2 * (N - seen.length) + p := ⟨_, rfl⟩
      rw [← hgg] at HA4
      have HGG2 : Hid (gg < gk) := Lib.hid (by have := HGG.out; omega)
      clear hb4 hgg
      go_wp2
      rw [show decide (0 < q) = true from decide_eq_true (by omega)]
      go_loopw [38, 6] (fun i v wy => ∃ k : Nat, k ≤ n ∧ i = .int .i64 (k : Nat) ∧ ∃ sn lx : List Nat, ReK S id sn lx j k ∧ RM w wy bs sn lx v ∧ 2 * (N - sn.length) + lx.length ≤ gg) (fun i _ _ => n - (intOf i).toNat)
      case atStart => exact ⟨0, Nat.zero_le _, rfl, seen, lf, HA4.out.1, HR4.out, HA4.out.2⟩
      case round =>
        obtain ⟨k, hk, rfl, sn, lx, hK2, hR2, hG2⟩ := hrel
        have HK2 := Lib.hid hK2
        have HR2 := Lib.hid hR2
        have HG2 := Lib.hid hG2
        by_cases hlt : (k : Int) < (n : Int)
        · have hkn : k < (S.c j).length := by have := HNN.out; omega
          obtain ⟨l, hl⟩ : ∃ l, l = (S.c j).getD k 0 := ⟨_, rfl⟩
          have hlm : l ∈ S.c j := by rw [hl, List.getD_eq_getElem?_getD, List.getElem?_eq_getElem hkn]; exact List.getElem_mem hkn
          have hlB : lit30 l := (HI.out.c0 j HJL.out).1 _ hlm
          have hlN := HJA.out l hlm
          have hkx := HK.out.below hR2.b
          have hUx := us_ints hkx HJL.out
          rw [HU.out] at hUx
          obtain ⟨bu, off, hau, q1⟩ : ∃ bb off, au = some ⟨bb, off, none⟩ ∧ wr.cell? ⟨bb, off + k, none⟩ = some (.int .i64 l) := by
            obtain ⟨a, cap, e, -, -, -, h3⟩ := hUx
            injection e with e1 e2 e3
            obtain ⟨b, off, h4, h5⟩ := h3.resolve_left (fun e => by rw [e] at hkn; simp at hkn)
            exact ⟨b, off, by rw [e1, h4], by rw [hl]; exact h5 k hkn⟩
          subst hau
          have q3 : wr.cell? ⟨r, 3, none⟩ = some (.map (some bm)) := hkx.b.cell 3
          have hw : IntKind.i64.wrap (-l) = -l := IntWalk.i64_in _ (by obtain ⟨a, b, c⟩ := hlB; omega)
          have hmx : (if l < -l then -l else l) = vr l := by unfold vr; split <;> omega
          have hmx2 : max l (-l) = vr l := rfl
          obtain ⟨mp, hmp, hby⟩ := mark_by HI.out hlB hlN
          have hlk := hkx.m.look tmM hlB.in64
          rw [hmp] at hlk
          obtain ⟨mh, by_⟩ := mp
          replace hlk : (Instr.lookup 70 (.map (some bm)) (.int .i64 (vr l)) false).run Try.prog wr = .ok (.agg #[.bool mh, .int .i64 by_]) wr := hlk
          have HL := Lib.hid hl
          have HKN := Lib.hid hkn
          have hlx : lx.length ≤ 1000000 := by have h1 := hK2.ll; have h2 := seen_len hK2.nd hK2.ok; have := HCL.out; omega
          have hsn : sn.length ≤ 1000000 := by have h2 := seen_len hK2.nd hK2.ok; have := HCL.out; omega
          clear hl hkn hlm hlB hlN hUx hkx hmp hK2 hR2 hG2
          rcases hby with ⟨e, hcv⟩ | ⟨b, e, b1, b2, b3, b4, hcv⟩
          · have e : by_ = -1 := e
            subst e
            have HA : Hid (ReK S id sn lx j (k + 1)) := Lib.hid (HK2.out.same (hk := HKN.out) (by rw [← HL.out]; exact hcv sn))
            clear hcv
            go_wp2
            go_roundw
            case rel => exact ⟨k + 1, by omega, by go_num, sn, lx, HA.out, HR2.out, HG2.out⟩
            case measure => simp [intOf]; omega
          · have e : by_ = (b : Int) := e
            subst e
            have hb9 : b ≤ 1000000 := by have := HCL.out; omega
            have hbn : ((b : Int) == -1) = false := by rw [beq_eq_false_iff_ne]; omega
            have hl2 := HR2.out.m.look tmB (x := (b : Int)) ⟨by omega, by omega⟩
            by_cases hin : b ∈ sn
            · have HA : Hid (ReK S id sn lx j (k + 1)) := Lib.hid (HK2.out.same (hk := HKN.out) (by rw [← HL.out]; exact hcv sn hin))
              have e2 : setF sn (b : Int) = some true := by unfold setF; rw [if_pos ⟨by omega, by rw [Int.toNat_natCast]; exact hin⟩]
              rw [e2] at hl2
              replace hl2 : (Instr.lookup 68 (.map (some bs)) (.int .i64 (b : Nat)) false).run Try.prog wr = .ok (.bool true) wr := hl2
              clear hcv hin e2 b1 b2 b3 b4
              go_wp2
              go_roundw
              case rel => exact ⟨k + 1, by omega, by go_num, sn, lx, HA.out, HR2.out, HG2.out⟩
              case measure => simp [intOf]; omega
            · have HA : Hid (ReK S id (sn ++ [b]) (lx ++ [b]) j (k + 1)) := Lib.hid (HK2.out.more HKN.out hin ⟨b1, b2, b3⟩ (by rw [← HL.out]; exact hcv _ (by simp)) (by rw [← HL.out]; exact b4))
              have HG3 : Hid (2 * (N - (sn ++ [b]).length) + (lx ++ [b]).length ≤ gg) := Lib.hid (by
                have h2 := seen_len HA.out.nd HA.out.ok
                have h3 := HN.out
                have h4 := HG2.out
                simp only [List.length_append, List.length_singleton] at h2 ⊢
                omega)
              have e2 : setF sn (b : Int) = none := by unfold setF; rw [if_neg (fun h => hin (by have := h.2; rwa [Int.toNat_natCast] at this))]
              rw [e2] at hl2
              replace hl2 : (Instr.lookup 68 (.map (some bs)) (.int .i64 (b : Nat)) false).run Try.prog wr = .ok (.bool false) wr := hl2
              obtain ⟨w5, hst5, hm5, hc5⟩ := HR2.out.m.store tmB (by unfold maxLen; omega) (x := (b : Int)) ⟨by omega, by omega⟩ true
              replace hst5 : (Instr.mapUpdate 68 (.map (some bs)) (.int .i64 (b : Nat)) (.bool true)).run Try.prog wr = .ok () w5 := hst5
              have HM5 := Lib.hid hm5
              have HC5 := Lib.hid hc5
              obtain ⟨al, cl2, hvv⟩ := HR2.out.form
              have HL5 : Hid (Row (w5.alloc (.cells #[.int .i64 (b : Nat)] 3)) 3 1 (.slice al lx.length cl2) lx.length (lx.map fun i : Nat => iv (i : Nat))) := Lib.hid (by
                rw [← hvv]
                exact (HR2.out.l.chg hc5 (fun g hg e => (HR2.out.o g hg).2 e)).alloc _)
              obtain ⟨ll, hll⟩ : ∃ ll, ll = lx.length := ⟨_, rfl⟩
              have HLL := Lib.hid hll
              rw [← hll] at HL5 hvv hlx
              subst hvv
              clear hcv hin e2 b1 b2 b3 b4 hm5 hc5 hll
              go_wp2_with (at_builtin; refine wpList_app rfl _ _ _ rfl 3 (.int .i64 0) 1 8 Try.underlying28 infoI rfl (by decide) (.slice al ll cl2) ll (lx.map fun i : Nat => iv (i : Nat)) rfl ?ho _ _ 1 1 [.int .i64 (b : Nat)] rfl rfl ?hn ?hs ?c1 ?c2 ?_)
              case ho => exact HL5.out
              case hs => rfl
              case c1 => unfold maxLen; omega
              case c2 => omega
              intro v6 w6 hp6
              obtain ⟨g6, cp6, hv6, -, -, -⟩ := hp6.1.some_ (by omega)
              have HR6 : Hid (RM w w6 bs (sn ++ [b]) (lx ++ [b]) v6) := Lib.hid (HR2.out.more HM5.out HC5.out (by rw [← HLL.out]; exact hp6))
              clear hp6
              subst hv6
              go_wp2
              go_roundw
              case rel => exact ⟨k + 1, by omega, by go_num, _, _, HA.out, HR6.out, HG3.out⟩
              case measure => simp [intOf]; omega
        · have HA : Hid (ReS S id sn lx) := Lib.hid (HK2.out.back (by have := HNN.out; omega))
          clear hK2 hR2 hG2
          go_wp2
          go_roundg (2 * (N - sn.length) + lx.length)
          case measure => have h1 := HG2.out; have h2 := HGG2.out; omega
          case rel => exact ⟨sn, lx, HA.out, HR2.out, Nat.le_refl _⟩
end
end Go.Proofs.Ytknpfopepedmmaa
