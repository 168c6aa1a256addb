/-
  The law's light and made: the data, and where they lie.
-/
import Derived.Test.YtnpmaphedcfnnaaDoorCnfK
import Derived.Test.YtnpmaphedcfnnaaDoorStructsL
import Derived.Deep.RegionLaw
namespace Go.Proofs.YtnpmaphedcfnnaaDoor
open Go.ChangeShapes Go.WideShapes Go.ChangeAt Go.RowKit
set_option linter.unusedVariables false
theorem FAtF.lt {fp : Nat → Prop} {B : Nat} {w : World} {f : Nat} {vars : Int} {xss : List (List Int)} (h : FAtF fp B w f vars xss) : ∀ g, fp g → g < w.heap.size := by
  obtain ⟨-, -, -, -, -, -, -, -, h6⟩ := h
  exact h6
abbrev St := Int × List (List Int)
def stepA (s : St) (a : ActC) : St :=
  if a.1 = 1 then (if 65536 < a.2.2 then s else (max s.1 a.2.2, s.2)) else (if rightB a.2.1 s.1 = true then (s.1, s.2 ++ [a.2.1]) else s)
def playA (v : Int) (l : List ActC) : St := l.foldl stepA (v, [])
theorem playA_step (v : Int) (l : List ActC) (k : Nat) (h : k < l.length) : playA v (l.take (k + 1)) = stepA (playA v (l.take k)) (l.getD k (0, [], 0)) := by
  unfold playA
  rw [List.take_succ_eq_append_getElem h, List.foldl_append]
  simp [List.getD, h]
/-- What holds of a formula after k acts. -/
structure GoodA (s : St) (k : Nat) : Prop where
  v0 : 0 ≤ s.1
  v1 : s.1 ≤ 65536
  n : s.2.length ≤ k
  cl : ∀ c ∈ s.2, ClauseL c ∧ c.length ≤ 60 ∧ Ok64 c
theorem rightB_cl {c : List Int} {v : Int} (h : rightB c v = true) (hv : v ≤ 65536) : ClauseL c ∧ Ok64 c := by
  unfold rightB at h
  rw [List.all_eq_true] at h
  refine ⟨fun x hx => ?_, fun j hj => ?_⟩
  · have := of_decide_eq_true (h x hx)
    exact ⟨this.1, by omega, by omega⟩
  · have := of_decide_eq_true (h _ (List.getElem_mem hj))
    have e : c.getD j 0 = c[j] := by simp [List.getD, hj]
    rw [e]
    exact ⟨by omega, by omega⟩
theorem GoodA.step {s : St} {k : Nat} (h : GoodA s k) (a : ActC) (ha : a.2.1.length ≤ 60) : GoodA (stepA s a) (k + 1) := by
  have h0 := h.v0
  have h1 := h.v1
  have hn := h.n
  unfold stepA
  split
  · split
    · exact ⟨h0, h1, by omega, h.cl⟩
    · refine ⟨?_, ?_, by simp; omega, h.cl⟩
      · simp only [Int.max_def]; split <;> omega
      · simp only [Int.max_def]; split <;> omega
  · split
    · rename_i hr
      refine ⟨h0, h1, by simp; omega, fun c hc => ?_⟩
      simp at hc
      rcases hc with hc | rfl
      · exact h.cl c hc
      · exact ⟨(rightB_cl hr h1).1, ha, (rightB_cl hr h1).2⟩
    · exact ⟨h0, h1, by omega, h.cl⟩
theorem GoodA.start {v : Int} (h0 : 0 ≤ v) (h1 : v ≤ 65536) : GoodA (v, []) 0 := ⟨h0, h1, Nat.le_refl _, fun c hc => by simp at hc⟩
theorem GoodA.all {s : St} {k : Nat} (h : GoodA s k) : AllCl s.2 := fun c hc => (h.cl c hc).1
theorem GoodA.at_ {s : St} {k : Nat} (h : GoodA s k) {j : Nat} (hj : j < s.2.length) : Ok64 (s.2.getD j []) ∧ (s.2.getD j []).length ≤ 60 := by
  have := h.cl _ (List.getElem_mem hj)
  have e : s.2.getD j [] = s.2[j] := by simp [List.getD, hj]
  rw [e]
  exact ⟨this.2.2, this.2.1⟩
/-- Where the two formulas lie: f's blocks are fp; the reference's is block rb, its list the row out; block rz is what will be told. -/
structure MadeW (w0 wr : World) (f rb rz : Nat) (Vf : Int) (Xf : List (List Int)) (Vr : Int) (Xr : List (List Int)) (fp : Nat → Prop) (out : Value) (us : List Value) : Prop where
  f : FAtF fp w0.heap.size wr f Vf Xf
  r : Blk wr rb 31 #[.int .i64 Vr, out]
  z : Blk wr rz 31 #[.int .i64 0, .slice none 0 0]
  row : Row wr 23 1 out Xr.length us
  len : us.length = Xr.length
  cls : ∀ j, j < Xr.length → Ints w0 (us.getD j undef) (Xr.getD j [])
  nr : ¬ fp rb
  nz : ¬ fp rz
  no : ∀ g, out.ownBlock = some g → w0.heap.size ≤ g ∧ g ≠ rb ∧ g ≠ rz ∧ ¬ fp g
  br : w0.heap.size ≤ rb
  bz : w0.heap.size ≤ rz
  rz : rb ≠ rz
  old : Below w0.heap.size w0 wr
section
variable {w0 wr w' : World} {f rb rz : Nat} {Vf Vr : Int} {Xf Xr : List (List Int)} {fp : Nat → Prop} {out : Value} {us : List Value}
theorem MadeW.below (h : MadeW w0 wr f rb rz Vf Xf Vr Xr fp out us) (hb : Below wr.heap.size wr w') : MadeW w0 w' f rb rz Vf Xf Vr Xr fp out us :=
  ⟨h.f.below hb, h.r.below hb h.r.lt, h.z.below hb h.z.lt, h.row.chg (S := fun _ => False) (Chg.of_below hb) (fun _ _ h => h), h.len, h.cls, h.nr, h.nz, h.no, h.br, h.bz, h.rz, h.old.trans (hb.mono h.old.size)⟩
theorem MadeW.drew (h : MadeW w0 wr f rb rz Vf Xf Vr Xr fp out us) : MadeW w0 wr.drew f rb rz Vf Xf Vr Xr fp out us := h.below ((Below.refl _ _).drew)
theorem MadeW.fop (h : MadeW w0 wr f rb rz Vf Xf Vr Xr fp out us) {V' : Int} {X' : List (List Int)} (hp : FPostF fp w0.heap.size wr f V' X' w') : ∃ fp', MadeW w0 w' f rb rz V' X' Vr Xr fp' out us := by
  obtain ⟨fp', h1, h2, h3, h4⟩ := hp
  have key : ∀ g, g < wr.heap.size → ¬ fp g → ¬ fp' g := fun g hl hn hg => by
    rcases h3 g hg with h | h
    · exact hn h
    · omega
  exact ⟨fp', h1, h.r.chg h2 h.nr, h.z.chg h2 h.nz, h.row.chg h2 (fun g hg => (h.no g hg).2.2.2), h.len, h.cls, key _ h.r.lt h.nr, key _ h.z.lt h.nz, fun g hg => ⟨(h.no g hg).1, (h.no g hg).2.1, (h.no g hg).2.2.1, key g (h.row.lt g hg) (h.no g hg).2.2.2⟩, h.br, h.bz, h.rz, h.old.trans h4⟩
theorem MadeW.setVars (h : MadeW w0 wr f rb rz Vf Xf Vr Xr fp out us) (m : Int) : MadeW w0 (wr.setCell ⟨rb, 0, none⟩ (.int .i64 m)) f rb rz Vf Xf m Xr fp out us := by
  have hc : Chg (fun k => k = rb) wr (wr.setCell ⟨rb, 0, none⟩ (.int .i64 m)) := (Chg.refl (fun k => k = rb) wr).setCell (p := ⟨rb, 0, none⟩) (.inl rfl) _
  refine ⟨h.f.chg hc (fun g hg e => h.nr (e ▸ hg)), h.r.set_ 0 _, h.z.chg hc (fun e => h.rz e.symm), h.row.chg hc (fun g hg e => (h.no g hg).2.1 e), h.len, h.cls, h.nr, h.nz, h.no, h.br, h.bz, h.rz, h.old.setCell (p := ⟨rb, 0, none⟩) h.br _⟩
theorem MadeW.setL (h : MadeW w0 wr f rb rz Vf Xf Vr Xr fp out us) {w3 : World} {v' u : Value} {c : List Int} (hb : Below wr.heap.size wr w3) (hr : Row w3 23 1 v' (Xr.length + 1) (us ++ [u])) (hv : ∀ g, v'.ownBlock = some g → wr.heap.size ≤ g) (hi : Ints w0 u c) :
    MadeW w0 (w3.setCell ⟨rb, 1, none⟩ v') f rb rz Vf Xf Vr (Xr ++ [c]) fp v' (us ++ [u]) := by
  have h3 := h.below hb
  have hc : Chg (fun k => k = rb) w3 (w3.setCell ⟨rb, 1, none⟩ v') := (Chg.refl (fun k => k = rb) w3).setCell (p := ⟨rb, 1, none⟩) (.inl rfl) _
  have hrb := h.r.lt
  have hrz := h.z.lt
  refine ⟨h3.f.chg hc (fun g hg e => h.nr (e ▸ hg)), ?_, h3.z.chg hc (fun e => h.rz e.symm), ?_, by simp [h.len], fun j hj => ?_, h.nr, h.nz, fun g hg => ?_, h.br, h.bz, h.rz, h3.old.setCell (p := ⟨rb, 1, none⟩) h.br _⟩
  · have := h3.r.set_ 1 v'
    simpa using this
  · have := hr.chg hc (fun g hg e => by have := hv g hg; omega)
    simpa using this
  · simp at hj
    rcases Nat.lt_or_ge j Xr.length with g | g
    · rw [getD_snoc_lt _ _ _ g, getD_snoc_lt _ _ _ (by rw [h.len]; exact g)]
      exact h.cls j g
    · obtain rfl : j = Xr.length := by omega
      rw [getD_snoc_eq]
      have : (us ++ [u]).getD Xr.length undef = u := by rw [← h.len]; exact getD_snoc_eq _ _ _
      rw [this]
      exact hi
  · have h1 := hv g hg
    have h2 := h.old.size
    exact ⟨by omega, by omega, by omega, fun e => by have := h.f.lt g e; omega⟩
theorem MadeW.intsS (h : MadeW w0 wr f rb rz Vf Xf Vr Xr fp out us) : IntsS wr out Xr := by
  rcases h.row.form with ⟨hn, h0, -⟩ | ⟨g, cap, hv, h1, h2, -, hx⟩
  · rw [hn, List.eq_nil_of_length_eq_zero h0]
    exact intsS_nil wr
  · refine ⟨_, cap, hv, h1, h2, .inr ⟨g, 0, rfl, fun j hj => ⟨us.getD j undef, ?_, (h.cls j hj).below h.old⟩⟩⟩
    rw [Nat.zero_add, (hx j (by rw [h.len]; exact hj)).1]
end
def lightB (l : List ActC) : Bool := decide (l.length ≤ 60) && l.all fun a => decide (a.2.1.length ≤ 60)
end Go.Proofs.YtnpmaphedcfnnaaDoor
/-
  The law's light and made, walked.
-/
namespace Go.Proofs.YtnpmaphedcfnnaaDoor
open Go.ChangeShapes Go.WideShapes Go.ChangeAt Go.RowKit
set_option linter.unusedVariables false
/-- What a round reads of the acts. -/
theorem acts_at {w : World} {a : Option Addr} {n cap : Nat} {xs : List ActC} (h : ActsC w (.slice a n cap) xs) {k : Nat} (hk : k < xs.length) :
    ∃ b off ua uc, a = some ⟨b, off, none⟩ ∧ b < w.heap.size ∧ Ints w (.slice ua (xs.getD k (0, [], 0)).2.1.length uc) (xs.getD k (0, [], 0)).2.1 ∧ ∀ wr, Below w.heap.size w wr →
      wr.cell? ⟨b, off + k * 3, none⟩ = some (.int .i64 (xs.getD k (0, [], 0)).1) ∧ wr.cell? ⟨b, off + k * 3 + 1, none⟩ = some (.slice ua (xs.getD k (0, [], 0)).2.1.length uc) ∧ wr.cell? ⟨b, off + k * 3 + 2, none⟩ = some (.int .i64 (xs.getD k (0, [], 0)).2.2) := by
  obtain ⟨a', cap', hv, -, -, h3⟩ := h
  injection hv with e1 e2 e3
  subst e1
  have hne : xs ≠ [] := fun e => by rw [e] at hk; simp at hk
  obtain ⟨b, off, rfl, hc⟩ := h3.resolve_left hne
  obtain ⟨c0, ⟨u, c1, hu⟩, c2⟩ := hc k hk
  have hu' := hu
  obtain ⟨ua, uc, rfl, -⟩ := hu'
  have hlt := World.block_lt_of_cell? w _ c0
  refine ⟨b, off, ua, uc, rfl, hlt, hu, fun wr hb => ⟨?_, ?_, ?_⟩⟩
  · exact (hb.cell (p := ⟨b, off + k * 3, none⟩) hlt).trans c0
  · exact (hb.cell (p := ⟨b, off + k * 3 + 1, none⟩) hlt).trans c1
  · exact (hb.cell (p := ⟨b, off + k * 3 + 2, none⟩) hlt).trans c2
theorem ActsC.form {w : World} {v : Value} {xs : List ActC} (h : ActsC w v xs) : ∃ a cap, v = .slice a xs.length cap ∧ xs.length ≤ cap ∧ cap ≤ maxLen := by
  obtain ⟨a, cap, rfl, h1, h2, -⟩ := h
  exact ⟨a, cap, rfl, h1, h2⟩
theorem light_no {xs : List ActC} {k : Nat} (hk : k < xs.length) (h : 60 < (xs.getD k (0, [], 0)).2.1.length) : lightB xs = false := by
  have : xs.all (fun a => decide (a.2.1.length ≤ 60)) = false := by
    rw [List.all_eq_false]
    refine ⟨xs[k], List.getElem_mem hk, ?_⟩
    have e : xs.getD k (0, [], 0) = xs[k] := by simp [List.getD, hk]
    rw [← e]
    intro h'
    have := of_decide_eq_true h'
    omega
  unfold lightB
  rw [this, Bool.and_false]
theorem light_yes {xs : List ActC} (hn : xs.length ≤ 60) (h : ∀ k, k < xs.length → (xs.getD k (0, [], 0)).2.1.length ≤ 60) : lightB xs = true := by
  unfold lightB
  rw [decide_eq_true hn, Bool.true_and, List.all_eq_true]
  intro x hx
  obtain ⟨j, hj, rfl⟩ := List.getElem_of_mem hx
  have := h j hj
  have e : xs.getD j (0, [], 0) = xs[j] := by simp [List.getD, hj]
  rw [e] at this
  exact decide_eq_true this
theorem lightB_at {xs : List ActC} (h : lightB xs = true) : xs.length ≤ 60 ∧ ∀ k, k < xs.length → (xs.getD k (0, [], 0)).2.1.length ≤ 60 := by
  unfold lightB at h
  rw [Bool.and_eq_true, decide_eq_true_eq, List.all_eq_true] at h
  refine ⟨h.1, fun k hk => ?_⟩
  have := h.2 _ (List.getElem_mem hk)
  have e : xs.getD k (0, [], 0) = xs[k] := by simp [List.getD, hk]
  rw [e]
  exact of_decide_eq_true this
set_option maxHeartbeats 1000000 in
theorem light_ {w : World} {v : Value} {xs : List ActC} (h : ActsC w v xs) : Calls Tryd.prog 8 #[v] w fun e w' => e = .returned (.bool (lightB xs)) ∧ w = w' := by
  obtain ⟨a, cap, hv, k1, k2⟩ := h.form
  obtain ⟨n, hn⟩ : ∃ n, n = xs.length := ⟨_, rfl⟩
  rw [← hn] at hv k1
  subst hv
  have hm : n ≤ 9223372036854775807 := Nat.le_trans k1 k2
  obtain ⟨ans, hans⟩ : ∃ ans, ans = lightB xs := ⟨_, rfl⟩
  rw [← hans]
  have HA := Lib.hid hans
  have HN := Lib.hid hn
  have HX := Lib.hid h
  clear h hn hans k1 k2
  by_cases hbig : 60 < n
  · have HZ : Hid (ans = false) := Lib.hid (by rw [HA.out]; unfold lightB; rw [decide_eq_false (by have := HN.out; omega), Bool.false_and])
    go_enter Tryd.func8, Tryd.ntmps8
    go_wp2
    go_ret
    exact ⟨by rw [HZ.out]; rfl, rfl⟩
  · go_enter Tryd.func8, Tryd.ntmps8
    go_wp2
    go_loopw [3] (fun i wr => ∃ k : Nat, k ≤ n ∧ i = .int .i64 k ∧ (∀ j, j < k → (xs.getD j (0, [], 0)).2.1.length ≤ 60) ∧ wr = w) (fun i _ => n - (intOf i).toNat)
    case atStart => exact ⟨0, Nat.zero_le _, rfl, fun _ h => absurd h (by omega), rfl⟩
    case round =>
      obtain ⟨k, hk, rfl, hrel, rfl⟩ := hrel
      have HR := Lib.hid hrel
      clear hrel
      by_cases hlt : (k : Int) < (n : Int)
      · have hkn : k < xs.length := by have := HN.out; omega
        obtain ⟨b, off, ua, uc, rfl, -, -, hc⟩ := acts_at HX.out hkn
        obtain ⟨-, c1, -⟩ := hc wr (Below.refl _ _)
        obtain ⟨m, hm2⟩ : ∃ m, m = (xs.getD k (0, [], 0)).2.1.length := ⟨_, rfl⟩
        rw [← hm2] at c1
        have HM := Lib.hid hm2
        have HK := Lib.hid hkn
        clear hc hm2 hkn
        by_cases hbig2 : 60 < m
        · have HZ : Hid (ans = false) := Lib.hid (by rw [HA.out]; exact light_no HK.out (by rw [← HM.out]; exact hbig2))
          go_wp2
          go_ret
          exact ⟨by rw [HZ.out]; rfl, rfl⟩
        · go_wp2
          go_roundw
          case rel =>
            refine ⟨k + 1, by omega, by go_num, fun j hj => ?_, trivial⟩
            rcases Nat.lt_or_ge j k with h | h
            · exact HR.out j h
            · rw [show j = k by omega, ← HM.out]; omega
          case measure => simp [intOf]; omega
      · have HZ : Hid (ans = true) := Lib.hid (by rw [HA.out]; exact light_yes (by have := HN.out; omega) (fun j hj => HR.out j (by have := HN.out; omega)))
        go_wp2
        go_ret
        exact ⟨by rw [HZ.out]; rfl, rfl⟩
/-- What made tells. -/
def MadePost (w : World) (s : St) (e : Ending) (w' : World) : Prop :=
  ∃ f v, e = .returned (.tuple #[.pointer (some ⟨f, 0, none⟩), .agg #[.int .i64 s.1, v], .bool true]) ∧ FAt w.heap.size w' f s.1 s.2 ∧ IntsS w' v s.2 ∧ Below w.heap.size w w'
set_option maxHeartbeats 1000000 in
set_option maxRecDepth 100000 in
theorem made_off {w : World} (v : Int) (hv : v < 0 ∨ 65536 < v) {u : Value} {xs : List ActC} (h : ActsC w u xs) :
    Calls Tryd.prog 11 #[.int .i64 v, u] w fun e w' => e = .returned (.tuple #[.pointer none, .agg #[.int .i64 0, .slice none 0 0], .bool true]) ∧ Below w.heap.size w w' := by
  have HN := Lib.hid (New_off v hv)
  obtain ⟨a, cap, rfl, -, -⟩ := h.form
  generalize xs.length = n at *
  clear h
  rcases hv with hv | hv
  all_goals
    go_enter Tryd.func11, Tryd.ntmps11
    go_wp2_with fail
    refine (HN.out _).mono ?_
    rintro e w1 ⟨rfl, rfl⟩
    go_wp2
    refine bodyPost_ret (v := .tuple #[.pointer none, .agg #[.int .i64 0, .slice none 0 0], .bool true]) (by simp [results, Tryd.results11, go_sem]) rfl ⟨rfl, ?_⟩
    exact ((Below.refl _ w).alloc (Nat.le_refl _) _).alloc (by simp) _
theorem FAtF.ne {fp : Nat → Prop} {B : Nat} {w : World} {f : Nat} {vars : Int} {xss : List (List Int)} (h : FAtF fp B w f vars xss) {g : Nat} (hg : ¬ fp g) : g ≠ f := by
  obtain ⟨-, vl, us, -, -, -, -, h5, -⟩ := h
  rintro rfl
  exact hg (h5 _ (.inl rfl))
theorem New_F (n : Int) (h0 : 0 ≤ n) (h1 : n ≤ 65536) (w : World) : Calls Tryd.prog 29 #[.int .i64 n] w fun e w' => e = .returned (.pointer (some ⟨w.heap.size, 0, none⟩)) ∧ FAtF (fun g => g = w.heap.size) w.heap.size w' w.heap.size n [] ∧ Below w.heap.size w w' ∧ w'.heap.size = w.heap.size + 1 := by
  go_enter Tryd.func29, Tryd.ntmps29
  go_wp2
  go_ret
  refine ⟨rfl, ⟨Nat.le_refl _, .slice none 0 0, [], Blk.new w 64 _, World.ownsRow_nil _ _ _ _, fun g hg => by simp [Value.ownBlock] at hg, Cls.nil _ _, fun g hg => ?_, fun g hg => ?_⟩, (Below.refl _ _).alloc (Nat.le_refl _) _, by simp⟩
  · rcases hg with h | h | ⟨j, hj, -⟩
    · exact h
    · simp [Value.ownBlock] at h
    · simp at hj
  · subst hg; simp
end Go.Proofs.YtnpmaphedcfnnaaDoor
