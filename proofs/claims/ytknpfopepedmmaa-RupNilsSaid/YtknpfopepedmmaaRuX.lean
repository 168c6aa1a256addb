/-
  Package rup: Add, walked.
-/
import Derived.Test.YtknpfopepedmmaaRuW
namespace Go.Proofs.Ytknpfopepedmmaa
open Go Go.ChangeShapes Go.WideShapes Go.ChangeAt Go.RowKit Go.Maps
set_option linter.unusedVariables false
set_option linter.unusedSimpArgs false
/-- A checker in memory, its blocks among some. -/
def CkAt (w : World) (r : Nat) (S : RS) (K : Nat → Prop) : Prop := ∃ vl vt bt bo bm nt no nm us ho, KP w r S vl vt bt bo bm nt no nm us ho ∧ (∀ g, KS r bt bo bm vl vt ho g → K g) ∧ nt ≤ S.cl.length ∧ no ≤ 1000000 * S.cl.length
theorem CkAt.below {w w' : World} {r : Nat} {S : RS} {K : Nat → Prop} (h : CkAt w r S K) (hb : Below w.heap.size w w') : CkAt w' r S K := by
  obtain ⟨vl, vt, bt, bo, bm, nt, no, nm, us, ho, h1, h2⟩ := h
  exact ⟨vl, vt, bt, bo, bm, nt, no, nm, us, ho, h1.below hb, h2⟩
def foK (S : RS) (n : List Int) (k : Nat) : Int → List Nat := fun x => if x ∈ n.take k then S.ofL x ++ [S.cl.length] else S.ofL x
theorem foK_next {S : RS} {n : List Int} (hn : n.Nodup) {k : Nat} (hk : k < n.length) : updN (foK S n k) (n.getD k 0) (foK S n k (n.getD k 0) ++ [S.cl.length]) = foK S n (k + 1) := by
  have e0 : n.getD k 0 = n[k] := by rw [List.getD_eq_getElem?_getD, List.getElem?_eq_getElem hk]; rfl
  have hnot : n.getD k 0 ∉ n.take k := fun h => by
    rw [e0] at h
    obtain ⟨j, hj, e⟩ := List.getElem_of_mem h
    have hjk : j < k := by rw [List.length_take] at hj; omega
    rw [List.getElem_take] at e
    exact List.pairwise_iff_getElem.1 hn j k (by omega) hk hjk e
  have hs : n.take (k + 1) = n.take k ++ [n.getD k 0] := by rw [e0, List.take_succ_eq_append_getElem hk]
  funext x
  unfold updN foK
  rw [hs]
  by_cases e : x = n.getD k 0
  · rw [if_pos e, if_neg hnot, e, if_pos (by simp)]
  · rw [if_neg e]
    by_cases h : x ∈ n.take k
    · rw [if_pos h, if_pos (List.mem_append.2 (.inl h))]
    · rw [if_neg h, if_neg]
      intro h2
      rcases List.mem_append.1 h2 with h2 | h2
      · exact h h2
      · exact e (List.mem_singleton.1 h2)
theorem foK_all (S : RS) (n : List Int) (x : Int) : foK S n n.length x = (S.more n).ofL x := by
  unfold foK
  rw [ofL_more, List.take_length]
  by_cases h : x ∈ n
  · rw [if_pos h, if_pos h]
  · rw [if_neg h, if_neg h, List.append_nil]
theorem KP.ksLt {w : World} {r : Nat} {S : RS} {vl vt : Value} {bt bo bm nt no nm : Nat} {us : List Value} {ho : (Int → Option (Option (Nat × Nat × Nat)))} (h : KP w r S vl vt bt bo bm nt no nm us ho) : ∀ g, KS r bt bo bm vl vt ho g → g < w.heap.size := fun g hg => by
  rcases hg with e | e | e | e | e | e | ⟨x, e⟩
  · rw [e]; exact h.b.lt
  · rw [e]; exact h.t.lt
  · rw [e]; exact h.o.lt
  · rw [e]; exact h.m.lt
  · exact h.l.lt g e
  · exact h.tr.lt g e
  · exact (h.of x).lt g e
/-- Between two literals of Add. -/
def AddR (w : World) (r : Nat) (S : RS) (n : List Int) (K : Nat → Prop) (vl vt : Value) (bt bo bm nt nm : Nat) (us : List Value) (k : Nat) (wr : World) : Prop :=
  ∃ no ho, KQ wr r (S.more n) vl vt bt bo bm nt no nm us ho (onF (S.more n)) (foK S n k) ∧ (∀ g, KS r bt bo bm vl vt ho g → K g ∨ w.heap.size ≤ g) ∧ no ≤ 1000000 * S.cl.length + k ∧ Chg K w wr
section
variable {w : World} {r : Nat} {S : RS} {K : Nat → Prop}
set_option maxHeartbeats 8000000 in
set_option maxRecDepth 100000 in
theorem add_ (h : CkAt w r S K) (hS : Set_ S S.cl.length) (hcl : S.cl.length ≤ 99999) {u : Value} {c : List Int} (hu : Ints w u c) (hc : ClauseL c) (h30 : Lit30s c) (hlen : c.length ≤ 1000000) :
    Calls Try.prog 14 #[kp r, u] w fun e w' => e = .returned (.int .i64 (S.cl.length : Nat)) ∧ Chg K w w' ∧ CkAt w' r (S.add (normC c)) (fun g => K g ∨ w.heap.size ≤ g) := by
  obtain ⟨vl, vt, bt, bo, bm, nt, no, nm, us, ho, hk, hK, hnt, hno⟩ := h
  obtain ⟨n, hn⟩ : ∃ n, n = normC c := ⟨_, rfl⟩
  have HNM := Lib.hid (cl_Norm hu hc hlen)
  have hnl : n.length ≤ 1000000 := by rw [hn]; have := length_normC c; omega
  have hnd : n.Nodup := by rw [hn]; exact (strict_normC c).imp fun {a b} h e => by rw [e] at h; omega
  have hn30 : Lit30s n := fun x hx => h30 x (by rw [hn] at hx; exact (mem_normC c x).1 hx)
  obtain ⟨al, cl, hvl⟩ : ∃ a c, vl = .slice a S.cl.length c := by
    rcases hk.l.form with ⟨e, e0, -⟩ | ⟨g, cap, e, -⟩
    · exact ⟨none, 0, by rw [e, e0]⟩
    · exact ⟨_, _, e⟩
  have c0 : w.cell? ⟨r, 0, none⟩ = some vl := hk.b.cell 0
  obtain ⟨a, cu, hun, -⟩ : ∃ a cu, u = .slice a c.length cu ∧ True := by
    obtain ⟨a, cu, e, -⟩ := hu
    exact ⟨a, cu, e, trivial⟩
  obtain ⟨m, hm⟩ : ∃ m, m = S.cl.length := ⟨_, rfl⟩
  rw [hvl, ← hm] at c0
  have HKP := Lib.hid hk
  have HKK := Lib.hid hK
  have HSS := Lib.hid hS
  have HNT := Lib.hid hnt
  have HNO := Lib.hid hno
  have HN30 := Lib.hid hn30
  have HND := Lib.hid hnd
  have HNL := Lib.hid hnl
  have HM := Lib.hid hm
  have HN := Lib.hid hn
  have HVL := Lib.hid hvl
  obtain ⟨nc, hnc⟩ : ∃ nc, nc = c.length := ⟨_, rfl⟩
  rw [hun, ← hnc] at HNM
  rw [hun, ← hnc]
  have hm9 : m ≤ 99999 := by omega
  rw [← hm]
  clear hk hK hS hnt hno hn30 hnd hnl hu hc h30 hlen hcl hn hm hun hnc hvl
  go_enter Try.func14, Try.ntmps14
  go_wp2_with fail
  refine HNM.out.mono ?_
  rintro e w1 ⟨u1, rfl, hown⟩
  have hown' : OwnI w w1 u1 n := by rw [HN.out]; exact hown
  obtain ⟨a1, cap1, hu1, -, -⟩ : ∃ a cap, u1 = .slice a n.length cap ∧ True ∧ True := by
    obtain ⟨a, cap, e, -⟩ := hown'.1.ints
    exact ⟨a, cap, e, trivial, trivial⟩
  have HOWN := Lib.hid hown'
  have HQ := Lib.hid (HKP.out.toQ.below hown'.2.1)
  have c0 : w1.cell? ⟨r, 0, none⟩ = some vl := HQ.out.b.cell 0
  rw [HVL.out, ← HM.out] at c0
  obtain ⟨q, hq⟩ : ∃ q, q = n.length := ⟨_, rfl⟩
  have HQN := Lib.hid hq
  rw [← hq] at hu1
  have hq9 : q ≤ 1000000 := by have := HNL.out; omega
  subst hu1
  clear hown hown' hq
  go_wp2_with (at_builtin; refine wpList_app rfl _ _ _ rfl 28 (.slice none 0 0) 1 24 Try.underlying26 infoL rfl (by decide) (.slice al m cl) m us rfl ?ho _ _ 1 1 [.slice a1 q cap1] rfl rfl ?hn ?hs ?c1 ?c2 ?_)
  case ho => have := HQ.out.l.alloc (.cells #[.slice a1 q cap1] 28); rw [HVL.out, ← HM.out] at this; exact this
  case hn => exact cellNew _ _ _ _ (by simp)
  case hs => exact oneCell1 rfl
  case c1 => unfold maxLen; omega
  case c2 => omega
  intro v3 wB hpF
  obtain ⟨g3, cp3, rfl, -, -, -⟩ := hpF.1.some_ (by omega)
  obtain ⟨b1, b2, b3, b4⟩ := HQ.out.push (n := n) (u := .slice a1 q cap1) (by have := HOWN.out.1.ints; exact this) (fun g hg => by
    have h1 := HOWN.out.2.2 g hg
    refine ⟨fun hS => by have := HKP.out.ksLt g hS; omega, HOWN.out.1.lt g hg⟩) (by rw [HVL.out, ← HM.out]; exact hpF)
  have kB0 : wB.cell? ⟨r, 0, none⟩ = some (.slice al m cl) := by have := b4.cell 0; rw [HVL.out, ← HM.out] at this; exact this
  have rB0 : wB.frozen? ⟨r, 0, none⟩ = false := b4.frozen 0
  have kB1 : wB.cell? ⟨r, 1, none⟩ = some (.map (some bt)) := b4.cell 1
  obtain ⟨vl2, hvl2⟩ : ∃ v, v = Value.slice (some ⟨g3, 0, none⟩) (m + 1) cp3 := ⟨_, rfl⟩
  rw [← hvl2] at b1 b2 b3
  have HVL2 := Lib.hid hvl2
  obtain ⟨wD, hst, hmD, hcD⟩ := b1.t.store tmB (n := nt) (by have := HNT.out; unfold maxLen; have := HM.out; omega) (x := (m : Int)) ⟨by omega, by omega⟩ true
  have eon : upd (onF S) (m : Int) (some true) = onF (S.more n) := by rw [onF_more HSS.out.inv.len n, ← HM.out]
  rw [eon] at hmD
  have HQD := Lib.hid (b1.there hmD hcD)
  have HCD : Hid (Chg K w wD) := Lib.hid ((((Chg.of_below (S := K) HOWN.out.2.1).trans b2 (fun i hi => by
    rcases hi with e | e
    · exact .inl (HKK.out i (.inl e))
    · exact .inl (HKK.out i (.inr (.inr (.inr (.inr (.inl e)))))))).trans hcD (fun i hi => .inl (HKK.out i (.inr (.inl hi))))))
  have HKS : Hid (∀ g, KS r bt bo bm vl2 vt ho g → K g ∨ w.heap.size ≤ g) := Lib.hid fun g hg => by
    rcases hg with e | e | e | e | e | e | e
    · exact .inl (HKK.out g (.inl e))
    · exact .inl (HKK.out g (.inr (.inl e)))
    · exact .inl (HKK.out g (.inr (.inr (.inl e))))
    · exact .inl (HKK.out g (.inr (.inr (.inr (.inl e)))))
    · rcases b3 with e' | ⟨g', e', hg'⟩
      · rw [e'] at e; exact .inl (HKK.out g (.inr (.inr (.inr (.inr (.inl e))))))
      · rw [e'] at e; injection e with e; have := HOWN.out.2.1.size; exact .inr (by omega)
    · exact .inl (HKK.out g (.inr (.inr (.inr (.inr (.inr (.inl e)))))))
    · exact .inl (HKK.out g (.inr (.inr (.inr (.inr (.inr (.inr e)))))))
  have H0 : Hid (AddR w r S n K vl2 vt bt bo bm (nt + 1) nm (us ++ [.slice a1 q cap1]) 0 wD) := Lib.hid ⟨no, ho, by
    have e : foK S n 0 = S.ofL := by funext x; unfold foK; simp
    rw [e]; exact HQD.out, HKS.out, by have := HNO.out; omega, HCD.out⟩
  replace hst : (Instr.mapUpdate 68 (.map (some bt)) (.int .i64 (m : Nat)) (.bool true)).run Try.prog (wB.setCell ⟨r, 0, none⟩ vl2) = .ok () wD := hst
  rw [hvl2] at hst
  clear b1 b2 b3 b4 hmD hcD eon hpF hvl2 c0
  go_wp2_with fail
  go_loopw [39] (fun i wr => ∃ k : Nat, k ≤ q ∧ i = .int .i64 (k : Nat) ∧ AddR w r S n K vl2 vt bt bo bm (nt + 1) nm (us ++ [.slice a1 q cap1]) k wr) (fun i _ => q - (intOf i).toNat)
  case atStart => exact ⟨0, Nat.zero_le _, rfl, H0.out⟩
  case round =>
    obtain ⟨k, hk, rfl, hR⟩ := hrel
    obtain ⟨no2, ho2, hQ2, hK2, hn2, hc2⟩ := hR
    have HQ2 := Lib.hid hQ2
    have HK2 := Lib.hid hK2
    have HN2 := Lib.hid hn2
    have HC2 := Lib.hid hc2
    clear hQ2 hK2 hn2 hc2
    by_cases hlt : (k : Int) < (q : Int)
    · have hkn : k < n.length := by have := HQN.out; omega
      have hus : us.length = S.cl.length := HKP.out.c.1
      have hgd : (us ++ [Value.slice a1 q cap1]).getD S.cl.length undef = Value.slice a1 q cap1 := by rw [← hus]; simp [List.getD]
      have hcn : (S.cl ++ [n]).getD S.cl.length [] = n := by simp [List.getD]
      have hI2 : Ints wr (.slice a1 q cap1) n := by
        have h1 := (HQ2.out.c.2 S.cl.length (by show S.cl.length < (S.cl ++ [n]).length; simp)).1
        rw [hgd] at h1
        have e : (S.more n).cl.getD S.cl.length [] = n := hcn
        rw [e] at h1
        exact h1
      obtain ⟨x, hx⟩ : ∃ x, x = n.getD k 0 := ⟨_, rfl⟩
      have hx30 : lit30 x := HN30.out x (by rw [hx, List.getD_eq_getElem?_getD, List.getElem?_eq_getElem hkn]; exact List.getElem_mem hkn)
      have hxin : in64 x := by obtain ⟨a, b, c⟩ := hx30; exact ⟨by omega, by omega⟩
      obtain ⟨bb, off, hab, qx⟩ : ∃ bb off, a1 = some ⟨bb, off, none⟩ ∧ wr.cell? ⟨bb, off + k, none⟩ = some (.int .i64 x) := by
        obtain ⟨a, cap, e, -, -, -, h3⟩ := hI2
        injection e with e1 e2 e3
        obtain ⟨b, off, h4, h5⟩ := h3.resolve_left (fun e => by rw [e] at hkn; simp at hkn)
        exact ⟨b, off, by rw [e1, h4], by rw [hx]; exact h5 k hkn⟩
      have k2 : wr.cell? ⟨r, 2, none⟩ = some (.map (some bo)) := HQ2.out.b.cell 2
      have k2d : wr.drew.cell? ⟨r, 2, none⟩ = some (.map (some bo)) := k2
      have hlk := HQ2.out.o.look tmO hxin
      replace hlk : (Instr.lookup 69 (.map (some bo)) (.int .i64 x) false).run Try.prog wr = .ok (hv ho2 x) wr := hlk
      obtain ⟨ah, lh, ch, hvh⟩ : ∃ a l c, hv ho2 x = .slice a l c := by
        rcases (HQ2.out.of x).form with ⟨e, -⟩ | ⟨g, cap, e, -⟩
        · exact ⟨none, 0, 0, e⟩
        · exact ⟨_, _, _, e⟩
      rw [hvh] at hlk
      have hlkd : (Instr.lookup 69 (.map (some bo)) (.int .i64 x) false).run Try.prog wr.drew = .ok (.slice ah lh ch) wr.drew := by
        have := (HQ2.out.below (Below.refl _ wr).drew).o.look tmO hxin
        replace this : (Instr.lookup 69 (.map (some bo)) (.int .i64 x) false).run Try.prog wr.drew = .ok (hv ho2 x) wr.drew := this
        rw [hvh] at this
        exact this
      have hlke : (Instr.lookup 69 (.map (some bo)) (.int .i64 x) false).run Try.prog ((wr.alloc (.cells #[.int .i64 (m : Nat)] 3)).drew) = .ok (.slice ah lh ch) ((wr.alloc (.cells #[.int .i64 (m : Nat)] 3)).drew) := by
        have := (HQ2.out.below (((Below.refl _ wr).alloc (Nat.le_refl _) (.cells #[.int .i64 (m : Nat)] 3)).drew)).o.look tmO hxin
        replace this : (Instr.lookup 69 (.map (some bo)) (.int .i64 x) false).run Try.prog ((wr.alloc (.cells #[.int .i64 (m : Nat)] 3)).drew) = .ok (hv ho2 x) ((wr.alloc (.cells #[.int .i64 (m : Nat)] 3)).drew) := this
        rw [hvh] at this
        exact this
      have hlkf : (Instr.lookup 69 (.map (some bo)) (.int .i64 x) false).run Try.prog (wr.drew.alloc (.cells #[.int .i64 (m : Nat)] 3)) = .ok (.slice ah lh ch) (wr.drew.alloc (.cells #[.int .i64 (m : Nat)] 3)) := hlke
      have HXX := Lib.hid hx
      have HXI := Lib.hid hxin
      have HVH := Lib.hid hvh
      have HFL : Hid ((foK S n k x).length ≤ 200000) := Lib.hid (by
        have h1 : (S.ofL x).length ≤ (List.range S.cl.length).length := List.length_filter_le _ _
        rw [List.length_range] at h1
        have h2 := HM.out
        unfold foK
        split
        · rw [List.length_append, List.length_singleton]; omega
        · omega)
      have HPE : Hid (Row (wr.drew.alloc (.cells #[.int .i64 (m : Nat)] 3)) 3 1 (.slice ah lh ch) (foK S n k x).length ((foK S n k x).map fun i => iv (i : Nat))) := Lib.hid (by
        have := ((HQ2.out.of x).drew).alloc (.cells #[.int .i64 (m : Nat)] 3)
        rw [hvh] at this
        exact this)
      have hrl : r < wr.heap.size := HQ2.out.b.lt
      subst hab
      clear hgd hcn hI2 hx hx30 hxin hvh hus hkn
      go_wp2_with fail
      go_region_law (first
        | (refine step_app rfl (.tmp 53) (.tmp 55) _ rfl 3 (.int .i64 0) 1 8 Try.underlying28 infoI rfl (by decide) (.slice ah lh ch) (foK S n k x).length ((foK S n k x).map fun i => iv (i : Nat)) (by simp [Act.eval]) ?ho wr.heap.size 0 1 1 [.int .i64 (m : Nat)] (by simp [Act.eval]) rfl ?hn ?hs ?c1 ?c2 ?_
           case ho => exact HPE.out
           case hn => exact cellNew _ _ _ _ (by simp)
           case hs => exact oneCell1 rfl
           case c1 => have := HFL.out; unfold maxLen; omega
           case c2 => have := HFL.out; omega
           intro v3 wE hpE
           obtain ⟨g5, cp5, rfl, -, -, -⟩ := hpE.1.some_ (by omega)
           have hpE' : AppPost (wr.drew.alloc (.cells #[.int .i64 (S.cl.length : Nat)] 3)) 3 1 (hv ho2 x) ((foK S n k x).length + 1) (((foK S n k x).map fun i => iv (i : Nat)) ++ [.int .i64 (S.cl.length : Nat)]) (evSl (some (g5, (foK S n k x).length + 1, cp5))) wE := by rw [HVH.out, ← HM.out]; exact hpE
           have kE2 : wE.cell? ⟨r, 2, none⟩ = some (.map (some bo)) := ((HQ2.out.b.chg (S := fun _ => False) (((Chg.refl (fun _ => False) wr).drew).alloc (.cells #[.int .i64 (S.cl.length : Nat)] 3)) (fun e => e)).chg hpE'.2.1 (fun e => (HQ2.out.sh r ⟨x, e⟩).1 rfl)).cell 2
           have hoE : MapF eSl wE bo no2 ho2 := (HQ2.out.o.chg (S := fun _ => False) (((Chg.refl (fun _ => False) wr).drew).alloc (.cells #[.int .i64 (S.cl.length : Nat)] 3)) (fun e => e)).chg hpE'.2.1 (fun e => (HQ2.out.sh bo ⟨x, e⟩).2.2.1 rfl)
           obtain ⟨wF, hst2, hmF, hcF⟩ := hoE.store tmO (by have := HN2.out; have := HM.out; unfold maxLen; omega) HXI.out (some (g5, (foK S n k x).length + 1, cp5))
           obtain ⟨d1, d2, d3⟩ := HQ2.out.group x S.cl.length hpE' hmF hcF
           replace hst2 : (Instr.mapUpdate 69 (.map (some bo)) (.int .i64 x) (.slice (some ⟨g5, 0, none⟩) ((foK S n k x).length + 1) cp5)).run Try.prog wE = .ok () wF := hst2
           have HA : Hid (AddR w r S n K vl2 vt bt bo bm (nt + 1) nm (us ++ [.slice (some ⟨bb, off, none⟩) q cap1]) (k + 1) wF) := Lib.hid ⟨_, _, by
             have e := foK_next HND.out (S := S) (k := k) (by have := HQN.out; omega)
             rw [← HXX.out] at e
             rw [← e]; exact d1, fun g hg => by
             rcases hg with e | e | e | e | e | e | e
             · exact HK2.out g (.inl e)
             · exact HK2.out g (.inr (.inl e))
             · exact HK2.out g (.inr (.inr (.inl e)))
             · exact HK2.out g (.inr (.inr (.inr (.inl e))))
             · exact HK2.out g (.inr (.inr (.inr (.inr (.inl e)))))
             · exact HK2.out g (.inr (.inr (.inr (.inr (.inr (.inl e))))))
             · rcases d3 g e with e | e
               · exact HK2.out g (.inr (.inr (.inr (.inr (.inr (.inr e))))))
               · have := HC2.out.size; exact .inr (by omega), by have := HN2.out; omega, HC2.out.trans d2 (fun i hi => by
             rcases hi with e | e
             · exact HK2.out i (.inr (.inr (.inl e)))
             · exact HK2.out i (.inr (.inr (.inr (.inr (.inr (.inr e)))))))⟩
           clear hpE hpE' hoE hmF hcF d1 d2 d3))
      all_goals
        go_wp2_with fail
        go_roundw
        case rel => exact ⟨k + 1, by omega, by go_num, HA.out⟩
        case measure => simp [intOf]; omega
    · obtain rfl : k = q := by omega
      have hKP := HQ2.out.toP rfl (fun x => by rw [HQN.out]; exact foK_all S n x)
      have hRI := HSS.out.inv.more HN30.out HND.out
      have HST := Lib.hid (settle_ hKP hRI (by rw [more_len]; have := HM.out; omega) (i := S.cl.length) (by rw [more_len]; omega) (more_last HSS.out.inv.len).2)
      rw [← HM.out] at HST
      have HKP2 := Lib.hid hKP
      clear hKP hRI
      go_wp2_with fail
      refine HST.out.mono ?_
      rintro e w5 ⟨rfl, vt5, nm5, hk5, hc5, ho5⟩
      have HF : Hid (Chg K w w5 ∧ CkAt w5 r (S.add n) (fun g => K g ∨ w.heap.size ≤ g)) := Lib.hid (by
        have hadd := add_law HSS.out HN30.out HND.out
        have e5 : (S.add n).cl.length = S.cl.length + 1 := by rw [hadd.2.1]; simp
        refine ⟨HC2.out.trans hc5 (fun i hi => ?_), vl2, vt5, bt, bo, bm, nt + 1, no2, nm5, us ++ [.slice a1 k cap1], ho2, ?_, fun g hg => ?_, ?_, ?_⟩
        · rcases hi with e | e | e
          · exact HK2.out i (.inl e)
          · exact HK2.out i (.inr (.inr (.inr (.inl e))))
          · exact HK2.out i (.inr (.inr (.inr (.inr (.inr (.inl e))))))
        · unfold RS.add; rw [← HM.out]; exact hk5
        · rcases hg with e | e | e | e | e | e | e
          · exact HK2.out g (.inl e)
          · exact HK2.out g (.inr (.inl e))
          · exact HK2.out g (.inr (.inr (.inl e)))
          · exact HK2.out g (.inr (.inr (.inr (.inl e))))
          · exact HK2.out g (.inr (.inr (.inr (.inr (.inl e)))))
          · rcases ho5 with o | ⟨g', o, hg'⟩
            · rw [o] at e; exact HK2.out g (.inr (.inr (.inr (.inr (.inr (.inl e))))))
            · rw [o] at e; injection e with e; have := HC2.out.size; exact .inr (by omega)
          · exact HK2.out g (.inr (.inr (.inr (.inr (.inr (.inr e))))))
        · rw [e5]; have := HNT.out; omega
        · rw [e5]; have := HN2.out; omega)
      rw [HN.out] at HF
      clear hk5 hc5 ho5
      go_wp2
      go_ret
      exact ⟨rfl, HF.out⟩
end
end Go.Proofs.Ytknpfopepedmmaa
