/-
  Checkers of proofs, plainly: a clause is added, or goes; whether one follows, and of which.
-/
import Derived.Test.YtknpfopepedmmaaRuM
namespace Go.Proofs.Ytknpfopepedmmaa
set_option linter.unusedVariables false
set_option linter.unusedSimpArgs false
/-- The same clauses, the same of them there. -/
def SameC (S S' : RS) : Prop := S'.cl = S.cl ∧ S'.on = S.on
theorem SameC.refl (S : RS) : SameC S S := ⟨rfl, rfl⟩
theorem SameC.trans {a b c : RS} (h : SameC a b) (k : SameC b c) : SameC a c := ⟨k.1.trans h.1, k.2.trans h.2⟩
theorem Ext.same {S S' : RS} (h : Ext S S') : SameC S S' := ⟨h.cl, h.on⟩
theorem RInv.rebase {S : RS} (h : RInv S []) (b : Nat) (hb : b ≤ S.tr.length) (k : Int) : RInv { S with base := b, bk := k } [] :=
  ⟨h.con, h.len, h.c0, hb, fun i hi => by
    rcases h.just i hi with ⟨-, -, h3⟩ | h3
    · simp at h3
    · exact .inr h3⟩
theorem all_law {S : RS} {p m : Nat} (h : RInv S []) (hp : Pnd S p m) (hm : m ≤ S.cl.length) (hl : p ≤ S.tr.length) : Set_ (S.all_ p) m ∧ SameC S (S.all_ p) := by
  obtain ⟨a1, a2, a3⟩ := spread_law fuel S p m h hp hm hl (by unfold fuel; omega)
  obtain ⟨R, hR⟩ : ∃ R, R = RS.spread fuel S p := ⟨_, rfl⟩
  have e : S.all_ p = R.1.fin R.2 := by rw [hR]; rfl
  rw [e]
  rw [← hR] at a1 a2 a3
  refine ⟨⟨a1.rebase _ (Nat.le_refl _) _, rfl, fun hb i hi hon => ?_, fun hb => ?_⟩, ⟨a2.cl, a2.on⟩⟩
  · rcases a3 with ⟨-, a3⟩ | ⟨k, hk, -⟩
    · have := a3 i hi (by rw [← a2.onA]; exact hon)
      rw [← a2.c] at this
      exact this
    · have hb : R.2 = -1 := hb
      omega
  · rcases a3 with ⟨e, -⟩ | a3
    · exact absurd e hb
    · exact a3
theorem settle_law {S : RS} {m : Nat} (h : Set_ S m) (hm : m < S.cl.length) (hon : S.onA m = true) : Set_ (S.settle m) (m + 1) ∧ SameC S (S.settle m) := by
  unfold RS.settle
  by_cases hb : S.bk ≠ -1
  · rw [if_pos hb]
    exact ⟨⟨h.inv, h.base, fun e => absurd e hb, h.bad⟩, SameC.refl S⟩
  · rw [if_neg hb]
    have hb' : S.bk = -1 := Decidable.byContradiction hb
    by_cases hf : falR (S.c m) S.T = true
    · rw [if_pos hf]
      refine ⟨⟨h.inv.rebase _ h.inv.base _, h.base, fun e => ?_, fun _ => ⟨m, rfl, hm, hon, hf⟩⟩, rfl, rfl⟩
      have e : (m : Int) = -1 := e
      omega
    · rw [if_neg hf]
      by_cases ht : telR (S.c m) S.T ≠ 0
      · rw [if_pos ht]
        have h1 := asg_inv h.inv hm hon ht
        have e1 : (S.asg (telR (S.c m) S.T) (m : Int)).tr.length = S.tr.length + 1 := by simp [RS.asg]
        have hp : Pnd (S.asg (telR (S.c m) S.T) (m : Int)) S.base (m + 1) := fun i hi hoi => by
          have hoi : S.onA i = true := hoi
          rw [S.T_asg]
          show ClosedC (S.c i) _ ∨ ∃ y ∈ S.c i, _
          by_cases him : i = m
          · rw [him]; exact .inl (closed_told (h.inv.nz hm) ht)
          · have hci := h.cls hb' i (by omega) hoi
            have hcon := h1.con
            rw [S.T_asg] at hcon
            by_cases hy : ∃ y ∈ S.c i, -y ∈ [telR (S.c m) S.T]
            · obtain ⟨y, hy, hd⟩ := hy
              refine .inr ⟨y, hy, ?_⟩
              rw [h.base, ← S.T_len, List.drop_left]
              exact hd
            · exact .inl (closed_ext (h.inv.nz (by omega)) hcon hci fun y hyc hmm => hy ⟨y, hyc, hmm⟩)
        obtain ⟨b1, b2⟩ := all_law h1 hp (by show m + 1 ≤ S.cl.length; omega) (by rw [e1, h.base]; omega)
        exact ⟨b1, b2⟩
      · rw [if_neg ht]
        have hp : Pnd S S.base (m + 1) := fun i hi hoi => by
          by_cases him : i = m
          · rw [him]; exact .inl ⟨by simpa using hf, Decidable.byContradiction fun hh => ht hh⟩
          · exact .inl (h.cls hb' i (by omega) hoi)
        exact all_law h.inv hp (by omega) (by rw [h.base]; exact Nat.le_refl _)
/-- A clause more. -/
def RS.more (S : RS) (c : List Int) : RS := { S with cl := S.cl ++ [c], on := S.on ++ [true] }
def RS.add (S : RS) (c : List Int) : RS := (S.more c).settle S.cl.length
theorem more_c {S : RS} {c : List Int} {i : Nat} (hi : i < S.cl.length) : (S.more c).c i = S.c i := by
  unfold RS.c RS.more
  simp only
  rw [getD_snocP, if_pos hi]
theorem more_on {S : RS} {c : List Int} (hl : S.on.length = S.cl.length) {i : Nat} (hi : i < S.cl.length) : (S.more c).onA i = S.onA i := by
  unfold RS.onA RS.more
  simp only
  rw [getD_snocP, if_pos (by omega)]
theorem more_last {S : RS} {c : List Int} (hl : S.on.length = S.cl.length) : (S.more c).c S.cl.length = c ∧ (S.more c).onA S.cl.length = true := by
  unfold RS.c RS.onA RS.more
  simp only
  rw [getD_snocP, getD_snocP, if_neg (by omega), if_pos rfl, if_neg (by omega), if_pos hl.symm]
  exact ⟨rfl, rfl⟩
theorem more_len (S : RS) (c : List Int) : (S.more c).cl.length = S.cl.length + 1 := by simp [RS.more]
theorem RInv.more {S : RS} {A : List Int} (h : RInv S A) {c : List Int} (hc : Lit30s c) (hn : c.Nodup) : RInv (S.more c) A := by
  refine ⟨h.con, by simp [RS.more, h.len], fun i hi => ?_, h.base, fun i hi => ?_⟩
  · rw [more_len] at hi
    by_cases e : i < S.cl.length
    · rw [more_c e]; exact h.c0 i e
    · obtain rfl : i = S.cl.length := by omega
      rw [(more_last h.len).1]; exact ⟨hc, hn⟩
  · rcases h.just i hi with h1 | ⟨k, k1, k2, k3, k4, k5⟩
    · exact .inl h1
    · refine .inr ⟨k, k1, by rw [more_len]; omega, by rw [more_on h.len k2]; exact k3, by rw [more_c k2]; exact k4, fun y hy hne => ?_⟩
      rw [more_c k2] at hy
      exact k5 y hy hne
theorem Fails.more {S : RS} {c : List Int} {id : Int} (hl : S.on.length = S.cl.length) (h : Fails S id) : Fails (S.more c) id := by
  obtain ⟨k, k1, k2, k3, k4⟩ := h
  exact ⟨k, k1, by rw [more_len]; omega, by rw [more_on hl k2]; exact k3, by rw [more_c k2]; exact k4⟩
theorem add_law {S : RS} (h : Set_ S S.cl.length) {c : List Int} (hc : Lit30s c) (hn : c.Nodup) : Set_ (S.add c) (S.cl.length + 1) ∧ (S.add c).cl = S.cl ++ [c] ∧ (S.add c).on = S.on ++ [true] := by
  have h1 : Set_ (S.more c) S.cl.length := by
    refine ⟨h.inv.more hc hn, h.base, fun hb i hi hon => ?_, fun hb => (h.bad hb).more h.inv.len⟩
    rw [more_c hi]
    rw [more_on h.inv.len hi] at hon
    exact h.cls hb i hi hon
  obtain ⟨a1, a2⟩ := settle_law h1 (by rw [more_len]; omega) (more_last h.inv.len).2
  exact ⟨a1, a2.1, a2.2⟩
/-- All anew. -/
def RS.wipe (S : RS) : RS := { S with tr := [], base := 0, bk := -1 }
def RS.againN (S : RS) : Nat → RS
  | 0 => S.wipe
  | n + 1 => if (S.againN n).onA n = true then (S.againN n).settle n else S.againN n
theorem wipe_law {S : RS} (hl : S.on.length = S.cl.length) (h0 : ∀ i, i < S.cl.length → Lit30s (S.c i) ∧ (S.c i).Nodup) : Set_ S.wipe 0 :=
  ⟨⟨Con.nil, hl, h0, Nat.le_refl _, fun i hi => by simp [RS.wipe] at hi⟩, rfl, fun _ i hi => by omega, fun hb => absurd rfl hb⟩
theorem again_law {S : RS} (hl : S.on.length = S.cl.length) (h0 : ∀ i, i < S.cl.length → Lit30s (S.c i) ∧ (S.c i).Nodup) : ∀ n, n ≤ S.cl.length → Set_ (S.againN n) n ∧ SameC S (S.againN n)
  | 0, _ => ⟨wipe_law hl h0, rfl, rfl⟩
  | n + 1, hn => by
    obtain ⟨a1, a2⟩ := again_law hl h0 n (by omega)
    rw [RS.againN]
    by_cases hon : (S.againN n).onA n = true
    · rw [if_pos hon]
      obtain ⟨b1, b2⟩ := settle_law a1 (by rw [a2.1]; omega) hon
      exact ⟨b1, a2.trans b2⟩
    · rw [if_neg hon]
      refine ⟨⟨a1.inv, a1.base, fun hb i hi hoi => ?_, a1.bad⟩, a2⟩
      by_cases e : i = n
      · rw [e] at hoi; exact absurd hoi hon
      · exact a1.cls hb i (by omega) hoi
def RS.gone (S : RS) (id : Nat) : RS := { S with on := S.on.set id false }
def RS.uses (S : RS) (id : Nat) : Bool := decide (S.bk = (id : Int)) || S.tr.any fun e => decide (e.2 = (id : Int))
def RS.drop (S : RS) (id : Nat) : RS := if S.uses id = true then (S.gone id).againN S.cl.length else S.gone id
theorem gone_on {S : RS} {id i : Nat} (hid : id < S.on.length) : (S.gone id).onA i = if i = id then false else S.onA i := by
  unfold RS.onA RS.gone
  simp only
  rw [List.getD_eq_getElem?_getD, List.getElem?_set]
  by_cases e : id = i
  · subst e; rw [if_pos rfl, if_pos hid, if_pos rfl]; rfl
  · rw [if_neg e, if_neg (fun h => e h.symm), List.getD_eq_getElem?_getD]
theorem drop_law {S : RS} (h : Set_ S S.cl.length) {id : Nat} (hid : id < S.cl.length) : Set_ (S.drop id) S.cl.length ∧ (S.drop id).cl = S.cl ∧ (S.drop id).on = S.on.set id false := by
  have hlen : (S.gone id).on.length = (S.gone id).cl.length := by simp [RS.gone, h.inv.len]
  have hid' : id < S.on.length := by rw [h.inv.len]; exact hid
  unfold RS.drop
  by_cases hu : S.uses id = true
  · rw [if_pos hu]
    obtain ⟨a1, a2⟩ := again_law hlen h.inv.c0 S.cl.length (Nat.le_refl _)
    exact ⟨a1, a2.1, a2.2⟩
  · rw [if_neg hu]
    have hu' : S.uses id = false := by simpa using hu
    unfold RS.uses at hu'
    rw [Bool.or_eq_false_iff] at hu'
    obtain ⟨u1, u2⟩ := hu'
    have u1 : S.bk ≠ (id : Int) := by simpa using u1
    have u2 : ∀ i, i < S.tr.length → (S.tr.getD i (0, 0)).2 ≠ (id : Int) := fun i hi => by
      have := List.any_eq_false.1 u2 (S.tr.getD i (0, 0)) (by rw [List.getD_eq_getElem?_getD, List.getElem?_eq_getElem hi]; exact List.getElem_mem hi)
      simpa using this
    refine ⟨⟨⟨h.inv.con, hlen, h.inv.c0, h.inv.base, fun i hi => ?_⟩, h.base, fun hb i hi hon => ?_, fun hb => ?_⟩, rfl, rfl⟩
    · rcases h.inv.just i hi with h1 | ⟨k, k1, k2, k3, k4, k5⟩
      · exact .inl h1
      · refine .inr ⟨k, k1, k2, ?_, k4, k5⟩
        have hne : k ≠ id := fun e => u2 i hi (by rw [k1, e])
        rw [gone_on hid', if_neg hne]; exact k3
    · rw [gone_on hid'] at hon
      by_cases e : i = id
      · rw [if_pos e] at hon; cases hon
      · rw [if_neg e] at hon; exact h.cls hb i hi hon
    · obtain ⟨k, k1, k2, k3, k4⟩ := h.bad hb
      have k1 : S.bk = (k : Int) := k1
      refine ⟨k, k1, k2, ?_, k4⟩
      rw [gone_on hid', if_neg (fun e => u1 (by rw [k1, e]))]; exact k3
/-! ### whether a clause follows -/
/-- Can the clauses that are there be closed, with the literals of a clause the other way? -/
def OpenS (S : RS) (c : List Int) : Prop := ∃ T, Con T ∧ (∀ y ∈ c, -y ∈ T) ∧ ClosedS S T
theorem Fails.notOpen {S : RS} {A : List Int} (h : RInv S A) {id : Int} (hf : Fails S id) {T : List Int} (hT : Con T) (hA : ∀ x ∈ A, x ∈ T) : ¬ ClosedS S T := fun hcl => by
  obtain ⟨k, -, k2, k3, k4⟩ := hf
  exact not_false hT (hcl k k2 k3) fun y hy => h.sub hT hA hcl _ (fal_iff.1 k4 y hy).2
theorem why_broken {S : RS} {m : Nat} (h : Set_ S m) (hb : S.bk ≠ -1) (c : List Int) : ¬ OpenS S c := fun ⟨T, t1, t2, t3⟩ => Fails.notOpen h.inv (h.bad hb) t1 (fun x hx => by simp at hx) t3
theorem why_holds {S : RS} {m : Nat} (h : Set_ S m) {c : List Int} {l : Int} (hl : l ∈ c) (hv : l ∈ S.T) : ¬ OpenS S c := fun ⟨T, t1, t2, t3⟩ => t1.co l (h.inv.sub t1 (fun x hx => by simp at hx) t3 l hv) (t2 l hl)
/-- What a clause's literals, the other way, are assigned without a clause. -/
def RS.neg1 (S : RS) : List Int → RS
  | [] => S
  | l :: r => if valR l S.T = 0 then (S.asg (-l) (-1)).neg1 r else S.neg1 r
theorem neg1_law {A : List Int} : ∀ (r : List Int) (S : RS), RInv S A → (∀ l ∈ r, lit30 l ∧ -l ∈ A ∧ l ∉ S.T) → (∀ l ∈ r, -l ∉ r) → RInv (S.neg1 r) A ∧ Ext S (S.neg1 r) ∧ ∀ l ∈ r, -l ∈ (S.neg1 r).T
  | [], S, h, _, _ => ⟨h, Ext.refl S, fun l hl => by simp at hl⟩
  | l :: r, S, h, h1, h2 => by
    obtain ⟨l1, l2, l3⟩ := h1 l List.mem_cons_self
    have hr : ∀ x ∈ r, -x ∉ r := fun x hx hn => h2 x (List.mem_cons_of_mem _ hx) (List.mem_cons_of_mem _ hn)
    unfold RS.neg1
    by_cases hv : valR l S.T = 0
    · rw [if_pos hv]
      obtain ⟨v1, v2⟩ := val_0 hv
      have lb : lit30 (-l) := by obtain ⟨a, b, c⟩ := l1; exact ⟨by omega, by omega, by omega⟩
      have ha := h.asg (l := -l) (b := -1) lb (val_zero v2 (by rw [Int.neg_neg]; exact v1)) (.inl ⟨rfl, h.base, l2⟩)
      obtain ⟨b1, b2, b3⟩ := neg1_law r (S.asg (-l) (-1)) ha (fun x hx => by
        obtain ⟨x1, x2, x3⟩ := h1 x (List.mem_cons_of_mem _ hx)
        refine ⟨x1, x2, ?_⟩
        rw [S.T_asg]
        intro hm
        rcases List.mem_append.1 hm with hm | hm
        · exact x3 hm
        · have e := List.mem_singleton.1 hm
          exact h2 l List.mem_cons_self (by rw [← e]; exact List.mem_cons_of_mem _ hx)) hr
      have x1 := Ext.asg S (-l) (-1)
      refine ⟨b1, x1.trans b2, fun x hx => ?_⟩
      rcases List.mem_cons.1 hx with rfl | hx
      · rw [b2.T, S.T_asg]
        exact List.mem_append.2 (.inl (by simp))
      · exact b3 x hx
    · rw [if_neg hv]
      obtain ⟨b1, b2, b3⟩ := neg1_law r S h (fun x hx => h1 x (List.mem_cons_of_mem _ hx)) hr
      refine ⟨b1, b2, fun x hx => ?_⟩
      rcases List.mem_cons.1 hx with rfl | hx
      · rw [b2.T]
        refine List.mem_append.2 (.inl ?_)
        rcases valR_cases x S.T with e | e | e
        · exact absurd (val_1 e) l3
        · exact absurd e hv
        · exact (val_m1 e).2
      · exact b3 x hx
/-- A clause's literals, the other way, are spread. -/
def RS.try_ (S : RS) (c : List Int) : RS × Int := RS.spread fuel (S.neg1 c) S.base
theorem try_law {S : RS} (h : Set_ S S.cl.length) (hb : S.bk = -1) {c : List Int} (hc : Lit30s c) (hf : ∀ l ∈ c, -l ∉ c) (hv : ∀ l ∈ c, l ∉ S.T) :
    RInv (S.try_ c).1 (c.map fun y => -y) ∧ Ext S (S.try_ c).1 ∧ (((S.try_ c).2 = -1 ∧ OpenS S c) ∨ (Fails (S.try_ c).1 (S.try_ c).2 ∧ ¬ OpenS S c)) := by
  have hinv : RInv S (c.map fun y => -y) := ⟨h.inv.con, h.inv.len, h.inv.c0, h.inv.base, fun i hi => by
    rcases h.inv.just i hi with ⟨-, -, h3⟩ | h3
    · simp at h3
    · exact .inr h3⟩
  obtain ⟨n1, n2, n3⟩ := neg1_law c S hinv (fun l hl => ⟨hc l hl, List.mem_map.2 ⟨l, hl, rfl⟩, hv l hl⟩) hf
  have hp : Pnd (S.neg1 c) S.base S.cl.length := fun i hi hon => by
    rw [n2.c]
    rw [n2.onA] at hon
    rw [h.base]
    exact Stay.ext (Ext.refl S) n2 hi n1 (h.cls hb i hi hon)
  obtain ⟨a1, a2, a3⟩ := spread_law fuel (S.neg1 c) S.base S.cl.length n1 hp (by rw [n2.cl]; exact Nat.le_refl _) (by have := n2.len; have := h.base; omega) (by unfold fuel; omega)
  have ext := n2.trans a2
  have hneg : ∀ y ∈ c, -y ∈ (S.try_ c).1.T := fun y hy => by
    show -y ∈ (RS.spread fuel (S.neg1 c) S.base).1.T
    rw [a2.T]
    exact List.mem_append.2 (.inl (n3 y hy))
  refine ⟨a1, ext, ?_⟩
  rcases a3 with ⟨e, a3⟩ | a3
  · refine .inl ⟨e, (S.try_ c).1.T, a1.con, hneg, fun i hi hon => ?_⟩
    have := a3 i hi (by rw [n2.onA]; exact hon)
    rwa [n2.c] at this
  · refine .inr ⟨a3, fun ⟨T, t1, t2, t3⟩ => Fails.notOpen a1 a3 t1 (fun x hx => ?_) fun i hi hon => ?_⟩
    · obtain ⟨y, hy, rfl⟩ := List.mem_map.1 hx
      exact t2 y hy
    · rw [ext.c]
      exact t3 i (by rw [← ext.cl]; exact hi) (by rw [← ext.onA]; exact hon)
/-! ### of which clauses -/
/-- Clauses with all those by which their literals came. -/
def RsP (S : RS) (id : Nat) (R : List Nat) : Prop := id ∈ R ∧ ∀ j ∈ R, j < S.cl.length ∧ S.onA j = true ∧ ∀ l ∈ S.c j, ∀ i, i < S.tr.length → ((S.tr.getD i (0, 0)).1 = l ∨ (S.tr.getD i (0, 0)).1 = -l) → (S.tr.getD i (0, 0)).2 = -1 ∨ ∃ k ∈ R, (S.tr.getD i (0, 0)).2 = (k : Int)
theorem core_in {S : RS} {A : List Int} (h : RInv S A) {id : Nat} {R : List Nat} (hR : RsP S id R) {T : List Int} (hT : Con T) (hA : ∀ x ∈ A, x ∈ T) (hcl : ∀ j ∈ R, ClosedC (S.c j) T) :
    ∀ n i, i < n → i < S.tr.length → ((S.tr.getD i (0, 0)).2 = -1 ∨ ∃ k ∈ R, (S.tr.getD i (0, 0)).2 = (k : Int)) → (S.tr.getD i (0, 0)).1 ∈ T
  | 0, i, hn, _, _ => by omega
  | n + 1, i, hn, hi, hb => by
    rcases h.just i hi with ⟨-, -, h3⟩ | ⟨k, k1, k2, k3, k4, k5⟩
    · exact hA _ h3
    · have hk : k ∈ R := by
        rcases hb with e | ⟨k', hk', e⟩
        · omega
        · have : k = k' := by omega
          rw [this]; exact hk'
      refine told_core (h.nz k2) hT (hcl k hk) k4 fun y hy hne => ?_
      obtain ⟨q, hq, e⟩ := List.getElem_of_mem (k5 y hy hne)
      have hql : q < i := by rw [List.length_take] at hq; omega
      have e1 : (S.tr.getD q (0, 0)).1 = -y := by
        rw [← getD_T, List.getD_eq_getElem?_getD, List.getElem?_eq_getElem (by rw [S.T_len]; omega)]
        rw [List.getElem_take] at e
        exact e
      rw [← e1]
      exact core_in h hR hT hA hcl n q (by omega) (by omega) ((hR.2 k hk).2.2 y hy q (by omega) (.inr e1))
theorem mem_T {S : RS} {x : Int} (h : x ∈ S.T) : ∃ i, i < S.tr.length ∧ (S.tr.getD i (0, 0)).1 = x := by
  obtain ⟨q, hq, e⟩ := List.getElem_of_mem h
  refine ⟨q, by rw [← S.T_len]; exact hq, ?_⟩
  rw [← getD_T, List.getD_eq_getElem?_getD, List.getElem?_eq_getElem hq]
  exact e
theorem core_false {S : RS} {A : List Int} (h : RInv S A) {id : Nat} {R : List Nat} (hR : RsP S id R) (hf : falR (S.c id) S.T = true) {T : List Int} (hT : Con T) (hA : ∀ x ∈ A, x ∈ T) : ¬ ∀ j ∈ R, ClosedC (S.c j) T := fun hcl => by
  refine not_false hT (hcl id hR.1) fun y hy => ?_
  obtain ⟨i, hi, e⟩ := mem_T (fal_iff.1 hf y hy).2
  rw [← e]
  exact core_in h hR hT hA hcl (i + 1) i (by omega) hi ((hR.2 id hR.1).2.2 y hy i hi (.inr e))
theorem core_holds {S : RS} {A : List Int} (h : RInv S A) {id : Nat} {R : List Nat} (hR : RsP S id R) {i : Nat} (hi : i < S.tr.length) (hb : (S.tr.getD i (0, 0)).2 = (id : Int)) {T : List Int} (hT : Con T) (hA : ∀ x ∈ A, x ∈ T) (hn : -(S.tr.getD i (0, 0)).1 ∈ T) : ¬ ∀ j ∈ R, ClosedC (S.c j) T := fun hcl =>
  hT.co _ (core_in h hR hT hA hcl (i + 1) i (by omega) hi (.inr ⟨id, hR.1, hb⟩)) hn
/-- All literals of a clause are assigned. -/
def AllIn (S : RS) (j : Nat) : Prop := ∀ l ∈ S.c j, l ∈ S.T ∨ -l ∈ S.T
theorem Fails.allIn {S : RS} {k : Nat} (hf : falR (S.c k) S.T = true) : AllIn S k := fun l hl => .inr (fal_iff.1 hf l hl).2
theorem just_allIn {S : RS} {A : List Int} (h : RInv S A) {i k : Nat} (hi : i < S.tr.length) (hk : (S.tr.getD i (0, 0)).2 = (k : Int)) : AllIn S k ∧ k < S.cl.length ∧ S.onA k = true := by
  rcases h.just i hi with ⟨e, -, -⟩ | ⟨k', k1, k2, k3, k4, k5⟩
  · omega
  · obtain rfl : k = k' := by omega
    refine ⟨fun l hl => ?_, k2, k3⟩
    by_cases e : l = (S.tr.getD i (0, 0)).1
    · refine .inl ?_
      rw [e, ← getD_T, List.getD_eq_getElem?_getD, List.getElem?_eq_getElem (by rw [S.T_len]; exact hi)]
      exact List.getElem_mem _
    · exact .inr (List.mem_of_mem_take (k5 l hl e))
end Go.Proofs.Ytknpfopepedmmaa
