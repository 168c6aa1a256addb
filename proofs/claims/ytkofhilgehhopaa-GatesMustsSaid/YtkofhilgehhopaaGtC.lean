/-
  Package gates: their formula, copied.
-/
import Derived.Test.YtkofhilgehhopaaGtB
namespace Go.Proofs.Ytkofhilgehhopaa
open Go Go.ChangeShapes Go.WideShapes Go.ChangeAt Go.RowKit Go.Maps
set_option linter.unusedVariables false
set_option linter.unusedSimpArgs false
/-- A row of lists of the call's own, the lists too. -/
def OwnS2 (w wr : World) (out : Value) (xss : List (List Int)) : Prop :=
  ∃ us, Row wr 32 1 out xss.length us ∧ (∀ g, out.ownBlock = some g → w.heap.size ≤ g) ∧ Cls wr (fun g => out.ownBlock = some g ∨ g < w.heap.size) us xss ∧ Below w.heap.size w wr
theorem OwnS2.start (w : World) : OwnS2 w w (.slice none 0 0) [] :=
  ⟨[], World.ownsRow_nil _ _ _ _, fun g hg => by simp [Value.ownBlock] at hg, Cls.nil _ _, Below.refl _ _⟩
theorem OwnS2.old {w wr : World} {out : Value} {xss : List (List Int)} (h : OwnS2 w wr out xss) : Below w.heap.size w wr := by
  obtain ⟨us, -, -, -, h⟩ := h
  exact h
theorem OwnS2.app {w wr w3 : World} {out v' u : Value} {xss : List (List Int)} {l : List Int} {us : List Value} (h1 : Row wr 32 1 out xss.length us) (h2 : ∀ g, out.ownBlock = some g → w.heap.size ≤ g) (h3 : Cls wr (fun g => out.ownBlock = some g ∨ g < w.heap.size) us xss) (h4 : Below w.heap.size w wr)
    (hi : Ints wr u l) (hu : ∀ g, u.ownBlock = some g → out.ownBlock ≠ some g ∧ g < wr.heap.size ∧ w.heap.size ≤ g) (hp : AppPost (wr.alloc (.cells #[u] 32)) 32 1 out (xss.length + 1) (us ++ [u]) v' w3) : OwnS2 w w3 v' (xss ++ [l]) := by
  obtain ⟨p1, p2, p3⟩ := hp
  have zA : (wr.alloc (.cells #[u] 32)).heap.size = wr.heap.size + 1 := by simp
  have hA : Below wr.heap.size wr (wr.alloc (.cells #[u] 32)) := (Below.refl _ _).alloc (Nat.le_refl _) _
  have hs := h4.size
  refine ⟨us ++ [u], by simpa using p1, fun g hg => ?_, ?_, ((h4.trans (hA.mono hs))).trans (p2.below (by simp; omega) h2)⟩
  · rcases p3 with e | e
    · rw [e] at hg; exact h2 g hg
    · rw [e] at hg; injection hg with hg; omega
  · have q0 : Cls wr (fun g => (out.ownBlock = some g ∨ g < w.heap.size) ∨ wr.heap.size ≤ g) us xss := by
      refine ⟨h3.1, fun j hj => ⟨(h3.2 j hj).1, fun g hg => ?_⟩⟩
      obtain ⟨r1, r2⟩ := (h3.2 j hj).2 g hg
      refine ⟨fun hS => ?_, r2⟩
      rcases hS with hS | hS
      · exact r1 hS
      · omega
    have q1 := (q0.below hA).chg p2 (fun g _ e => .inl (.inl e))
    have q2 : Cls w3 (fun g => v'.ownBlock = some g ∨ g < w.heap.size) us xss := q1.mono (fun g _ e => by
      rcases e with e | e
      · rcases p3 with e' | e'
        · rw [e'] at e; exact .inl (.inl e)
        · rw [e'] at e; injection e with e; exact .inr (by omega)
      · exact .inl (.inr e))
    refine q2.snoc ((hi.below hA).chg p2 (fun g hg e => (hu g hg).1 e)) (fun g hg => ⟨fun e => ?_, ?_⟩)
    · rcases e with e | e
      · rcases p3 with e' | e'
        · rw [e'] at e; exact (hu g hg).1 e
        · rw [e'] at e; injection e with e; have := (hu g hg).2; omega
      · have := (hu g hg).2.2; omega
    · have := (hu g hg).2; have := p2.size; omega
set_option maxHeartbeats 1000000 in
theorem Clauses_2 {B : Nat} {w : World} {f : Nat} {vars : Int} {xss : List (List Int)} (h : FAt B w f vars xss) (hx : xss.length ≤ 1000000) (hl : ∀ j, j < xss.length → (xss.getD j []).length ≤ 1000000) :
    Calls Try.prog 27 #[.pointer (some ⟨f, 0, none⟩)] w fun e w' => ∃ u, e = .returned u ∧ OwnS2 w w' u xss := by
  obtain ⟨vl, c0, c1, h2⟩ := h.read
  have HA := Lib.hid (all_ c1)
  have HS := Lib.hid h2
  have HL := Lib.hid hl
  obtain ⟨a, cap, hv, -, -⟩ := h2.form
  obtain ⟨n, hn⟩ : ∃ n, n = xss.length := ⟨_, rfl⟩
  rw [← hn] at hv hx
  subst hv
  have HN := Lib.hid hn
  clear h c0 c1 h2 hn hl
  go_enter Try.func27, Try.ntmps27
  go_wp2_with ((go_at_call 59; refine (HA.out).mono ?_; rintro e w' ⟨rfl, rfl⟩))
  go_loopw [2, 8] (fun out i wr => ∃ k : Nat, k ≤ n ∧ i = .int .i64 k ∧ OwnS2 w wr out (xss.take k)) (fun _ i _ => n - (intOf i).toNat)
  case atStart => exact ⟨0, Nat.zero_le _, rfl, OwnS2.start w⟩
  case round =>
    obtain ⟨k, hk, rfl, hO⟩ := hrel
    by_cases hlt : (k : Int) < (n : Int)
    · have hkn : k < xss.length := by have := HN.out; omega
      obtain ⟨b, off, cap', u, he, hcell, hint⟩ := HS.out.at_ hkn
      injection he with e1 e2 e3
      subst e1
      have hc := (hO.old.cell (p := ⟨b, off + k, none⟩) (World.block_lt_of_cell? w _ hcell)).trans hcell
      have HC := Lib.hid (slices_Clone (hint.below hO.old) (by have := HL.out k hkn; omega))
      have HT := Lib.hid (take_snocS hkn)
      have hlk : (xss.take k).length = k := by rw [List.length_take]; omega
      obtain ⟨us, o1, o2, o3, o4⟩ := hO
      rw [hlk] at o1
      have HK := Lib.hid hlk
      have O1 := Lib.hid o1
      have O2 := Lib.hid o2
      have O3 := Lib.hid o3
      have O4 := Lib.hid o4
      clear hint hcell hkn e2 e3 hlk o1 o2 o3 o4
      obtain ⟨ua, ul, uc, rfl⟩ : ∃ ua ul uc, u = .slice ua ul uc := by
        have := (HS.out.at_ (j := k) (by have := HN.out; omega))
        obtain ⟨_, _, _, u', h', h'', hi⟩ := this
        injection h' with g1 g2 g3
        injection g1 with g1
        injection g1 with g1 g4
        subst g1 g4
        have hz := hc.symm.trans ((O4.out.cell (p := ⟨_, off + k, none⟩) (World.block_lt_of_cell? w _ h'')).trans h'')
        injection hz with hz
        obtain ⟨a', cap', hu', -⟩ := hi
        exact ⟨_, _, _, hz.trans hu'⟩
      go_wp2_with fail
      refine HC.out.mono ?_
      rintro e w2 ⟨uz, rfl, hp⟩
      obtain ⟨va, vc, rfl⟩ := clone_form hp
      have HP := Lib.hid hp
      have HR : Hid (Row (w2.alloc (.cells #[.slice va (xss.getD k []).length vc] 32)) 32 1 u2 k us) := Lib.hid ((O1.out.chg (S := fun _ => False) (Chg.of_below hp.2.2) (fun _ _ h => h)).alloc _)
      clear hp
      go_wp2_with (at_builtin; refine wpList_app rfl _ _ _ rfl 32 (.slice none 0 0) 1 24 Try.underlying45 infoL rfl (by decide) u2 k us rfl ?ho w2.heap.size 0 1 1 [.slice va (xss.getD k []).length vc] rfl rfl ?hn ?hs ?c1 ?c2 ?_)
      case ho => exact HR.out
      case hn => exact cellNew _ _ _ _ rfl
      case hs => exact oneCell1 rfl
      case c1 => unfold maxLen; omega
      case c2 => omega
      intro v' w3 hp3
      have hfin : OwnS2 w w3 v' (xss.take (k + 1)) := by
        rw [HT.out]
        have hb := HP.out.2.2
        have hlk := HK.out
        refine OwnS2.app (wr := w2) (us := us) (by rw [hlk]; exact O1.out.chg (S := fun _ => False) (Chg.of_below hb) (fun _ _ h => h)) O2.out (O3.out.below hb) (O4.out.trans (hb.mono O4.out.size)) HP.out.1.ints (fun g hg => ⟨fun e => ?_, HP.out.1.lt g hg, Nat.le_trans O4.out.size (HP.out.2.1 g hg)⟩) (by rw [hlk]; exact hp3)
        have q1 := HP.out.2.1 g hg
        have q2 := O1.out.lt g e
        omega
      have HF := Lib.hid hfin
      clear hp3 hfin
      go_wp2
      go_roundw
      case rel => exact ⟨k + 1, by omega, by go_num, HF.out⟩
      case measure => simp [intOf]; omega
    · have HZ := Lib.hid hO
      have hkn : k = n := by omega
      have HK := Lib.hid hkn
      clear hO hkn
      go_wp2
      go_ret
      refine ⟨_, rfl, ?_⟩
      have := HZ.out
      rw [HK.out, HN.out, List.take_length] at this
      exact this
theorem FAtF.weak {fp : Nat → Prop} {B B' : Nat} {w : World} {f : Nat} {n : Int} {xss : List (List Int)} (h : FAtF fp B w f n xss) (hB : B' ≤ B) : FAtF fp B' w f n xss := by
  obtain ⟨h0, vl, us, h1, h2, h3, h4, h5, h6⟩ := h
  exact ⟨Nat.le_trans hB h0, vl, us, h1, h2, fun g hg => ⟨Nat.le_trans hB (h3 g hg).1, (h3 g hg).2⟩, h4, h5, h6⟩
/-- The lists stay while none of their blocks turns. -/
theorem OwnS2.at_ {w wr wx : World} {out : Value} {xss : List (List Int)} {T : Nat → Prop} (h : OwnS2 w wr out xss) (hc : Chg T wr wx) (hT : ∀ g, T g → g < w.heap.size) {j : Nat} (hj : j < xss.length) :
    ∃ g cap a c2, out = .slice (some ⟨g, 0, none⟩) xss.length cap ∧ wx.cell? ⟨g, j, none⟩ = some (.slice a (xss.getD j []).length c2) ∧ Ints wx (.slice a (xss.getD j []).length c2) (xss.getD j []) := by
  obtain ⟨us, h1, h2, h3, h4⟩ := h
  have h1' := h1.chg hc (fun g hg hg' => by have := h2 g hg; have := hT g hg'; omega)
  have h3' := h3.chg hc (fun g _ e => .inr (hT g e))
  rcases h1'.form with ⟨-, h0, -⟩ | ⟨g, cap, e, -, -, -, hx⟩
  · omega
  · have q1 := hx j (by rw [h3'.1]; exact hj)
    have q2 := (h3'.2 j hj).1
    obtain ⟨a, c2, e2, -⟩ := id q2
    rw [e2] at q2
    exact ⟨g, cap, a, c2, e, by rw [q1.1, e2], q2⟩
/-- A formula of gates: its clauses are such. -/
def ClsOk (n : Int) (xss : List (List Int)) : Prop := xss.length ≤ 100000 ∧ ∀ j, j < xss.length → (xss.getD j []).length ≤ 1000 ∧ rightB (xss.getD j []) n = true
def FmR (w1 w2 : World) (f1 : Nat) (n : Int) (xss : List (List Int)) (wr : World) : Prop :=
  ∃ fp, FAtF fp f1 wr f1 n xss ∧ (∀ g, fp g → g = f1 ∨ w2.heap.size ≤ g) ∧ Chg (fun g => g = f1) w2 wr
set_option maxHeartbeats 4000000 in
set_option maxRecDepth 100000 in
theorem Formula_ {fp : Nat → Prop} {B : Nat} {w : World} {g f m : Nat} {n : Int} {xss : List (List Int)} {D : DataW Unit} (h : GAt fp B w g f m n xss D) (hn0 : 0 ≤ n) (hn : n ≤ 65536) (hok : ClsOk n xss) :
    Calls Try.prog 8 #[.pointer (some ⟨g, 0, none⟩)] w fun e w' => ∃ f', e = .returned (.pointer (some ⟨f', 0, none⟩)) ∧ FAt w.heap.size w' f' n xss ∧ Below w.heap.size w w' := by
  obtain ⟨c0, c1, c2⟩ := h.cells
  have HV := Lib.hid (Vars_ h.fo.toF)
  have HN := Lib.hid (New_F' n hn0 hn w)
  have HH := Lib.hid h
  have HOK := Lib.hid hok
  obtain ⟨f1, hf1⟩ : ∃ f1, f1 = w.heap.size := ⟨_, rfl⟩
  rw [← hf1] at HN
  have HF1 := Lib.hid hf1
  clear h hok c1 c2 hf1
  go_enter Try.func8, Try.ntmps8
  go_wp2_with ((go_at_call 9; refine (HV.out).mono ?_; rintro e w' ⟨rfl, rfl⟩))
  refine HN.out.mono ?_
  rintro e w1 ⟨rfl, hF, hb, hsz⟩
  have hb' : Below w.heap.size w w1 := by rw [← HF1.out]; exact hb
  have hg1 := HH.out.below hb'
  have c0' := hg1.cells.1
  have HCL := Lib.hid (Clauses_2 hg1.fo.toF (by have := HOK.out.1; omega) (fun j hj => by have := (HOK.out.2 j hj).1; omega))
  have HF := Lib.hid hF
  have HB1 := Lib.hid hb'
  have HSZ := Lib.hid hsz
  clear hF hb hb' hsz hg1 c0
  go_wp2_with fail
  refine HCL.out.mono ?_
  rintro e w2 ⟨u, rfl, hO⟩
  obtain ⟨ua, uc, rfl⟩ : ∃ a cap, u = .slice a xss.length cap := by
    obtain ⟨us, h1, -⟩ := hO
    rcases h1.form with ⟨rfl, h0, -⟩ | ⟨g, cap, rfl, -⟩
    · exact ⟨_, _, by rw [h0]⟩
    · exact ⟨_, _, rfl⟩
  obtain ⟨k0, hk0⟩ : ∃ k0, k0 = xss.length := ⟨_, rfl⟩
  have hst : FmR w1 w2 f1 n (xss.take 0) w2 := by
    refine ⟨_, HF.out.below hO.old, fun g hg => .inl hg, Chg.refl _ _⟩
  have HST := Lib.hid hst
  have hk9 : k0 ≤ 100000 := by rw [hk0]; exact HOK.out.1
  have HO := Lib.hid hO
  have HK := Lib.hid hk0
  rw [← hk0]
  clear hO hk0 hst c0'
  go_wp2
  go_loopw [20] (fun i wr => ∃ k : Nat, k ≤ k0 ∧ i = .int .i64 k ∧ FmR w1 w2 f1 n (xss.take k) wr) (fun i _ => k0 - (intOf i).toNat)
  case atStart => exact ⟨0, Nat.zero_le _, rfl, HST.out⟩
  case round =>
    obtain ⟨k, hk, rfl, fq, hF, hfp, hch⟩ := hrel
    have HF1W : Hid (f1 < w1.heap.size) := Lib.hid (by have := HSZ.out; omega)
    by_cases hlt : (k : Int) < (k0 : Int)
    · have hkn : k < xss.length := by have := HK.out; omega
      obtain ⟨gg, cap, a, c2, he, q1, hint⟩ := HO.out.at_ hch (fun x hx => by have := HF1W.out; have hx : x = f1 := hx; omega) hkn
      injection he with e1 e2 e3
      subst e1
      obtain ⟨hl9, hrt⟩ := HOK.out.2 k hkn
      have hs2 : w1.heap.size ≤ wr.heap.size := Nat.le_trans HO.out.old.size hch.size
      have ha := Add_yes hF (by have := HF1W.out; omega) hn0 hn hint hrt (by rw [List.length_take]; have := HOK.out.1; omega) (by omega)
      rw [← take_snocS hkn] at ha
      have HA := Lib.hid ha
      have HC := Lib.hid hch
      have HFP := Lib.hid hfp
      obtain ⟨q, hq⟩ : ∃ q, q = (xss.getD k []).length := ⟨_, rfl⟩
      rw [← hq] at HA q1
      clear ha hF hfp hch hint hl9 hrt hkn e2 e3 hs2 hq
      go_wp2_with fail
      refine HA.out.mono ?_
      rintro e w3 ⟨rfl, fq', hF, hc, hs, hb⟩
      have HR : Hid (FmR w1 w2 f1 n (xss.take (k + 1)) w3) := Lib.hid ⟨fq', hF, fun x hx => by
        rcases hs x hx with e | e
        · exact HFP.out x e
        · exact .inr (Nat.le_trans HC.out.size e), HC.out.trans hc (fun i hi => by
        rcases HFP.out i hi with e | e
        · exact .inl e
        · exact .inr e)⟩
      clear hF hc hs hb
      go_wp2
      go_roundw
      case rel => exact ⟨k + 1, by omega, by go_num, HR.out⟩
      case measure => simp [intOf]; omega
    · have hkn : k = xss.length := by have := HK.out; omega
      have HR : Hid (FAt w.heap.size wr f1 n xss ∧ Below w.heap.size w wr) := Lib.hid (by
        rw [hkn, List.take_length] at hF
        rw [← HF1.out]
        refine ⟨hF.toF, ?_⟩
        have s1 := HB1.out.size
        have s2 := HO.out.old.size
        have e1 := HF1.out
        have h1 := HB1.out.trans (HO.out.old.mono s1)
        have h2 := hch.below (B := w.heap.size) (by omega) (fun i hi => by have hi : i = f1 := hi; omega)
        rw [e1]
        exact h1.trans h2)
      clear hF hfp hch hkn
      go_wp2
      go_ret
      exact ⟨f1, rfl, HR.out⟩
end Go.Proofs.Ytkofhilgehhopaa
