/-
  Package trim: Proof, walked.
-/
import Derived.Test.YtknpfopepedmmaaTmF
namespace Go.Proofs.Ytknpfopepedmmaa
open Go Go.ChangeShapes Go.WideShapes Go.ChangeAt Go.RowKit Go.Maps
set_option linter.unusedVariables false
set_option linter.unusedSimpArgs false
noncomputable def trEnd (og : List (List Int)) (xs : List Stp) : TrS := trK og xs xs.length
noncomputable def needP (og : List (List Int)) (xs : List Stp) (goal : List Int) : List Bool := need (trEnd og xs).ws (whyF (trEnd og xs).S goal)
noncomputable def usedP (og : List (List Int)) (xs : List Stp) (goal : List Int) : List Nat := usedU og.length (needP og xs goal) (trEnd og xs).ws.length
noncomputable def keptP (og : List (List Int)) (xs : List Stp) (goal : List Int) : List Stp := stepsOf (og ++ (trEnd og xs).ts.map (stC xs)) (keptU og.length (needP og xs goal) (trEnd og xs).ws.length)
def TrFin (og : List (List Int)) (xs : List Stp) (goal : List Int) : Prop := (∃ L G, TrI og xs xs.length (trEnd og xs) L G) ∧ WhyR (trEnd og xs).S goal true (whyF (trEnd og xs).S goal)
/-- What Proof answers. -/
def PrfQ (w : World) (og : List (List Int)) (xs : List Stp) (goal : List Int) (e : Ending) (w' : World) : Prop :=
  ∃ uv sv, e = .returned (.agg #[uv, sv, .int .i64 (chkD og xs goal)]) ∧ Below w.heap.size w w' ∧ (chkD og xs goal = -1 → Ints w' uv (natI (usedP og xs goal)) ∧ StpS w' sv (keptP og xs goal) ∧ TrFin og xs goal) ∧ (chkD og xs goal ≠ -1 → uv = .slice none 0 0 ∧ sv = .slice none 0 0)
theorem TrI.inp {og : List (List Int)} {xs : List Stp} {s : TrS} {G : List Bool} (h : TrI og xs 0 s og G) (hS : Set_ s.S s.S.cl.length) {c : List Int} (hc : Lit30s c) : TrI (og ++ [c]) xs 0 (s.inp c) (og ++ [c]) (G ++ [false]) := by
  have hts : s.ts = [] := List.eq_nil_iff_forall_not_mem.2 fun i hi => by have := h.lt i hi; omega
  refine ⟨h.mir.add hS hc, ?_, ?_, ?_, ?_, ?_, ?_, fun j h1 h2 => by omega⟩
  · show og ++ [c] = og ++ [c] ++ s.ts.map (stC xs)
    rw [hts]; simp
  · show (s.ws ++ [[]]).length = _
    rw [List.length_append, List.length_append, h.wl]; rfl
  · exact h.up
  · exact h.lt
  · exact h.ng
  · intro j hj i hi
    replace hi : i ∈ (s.ws ++ [[]]).getD j [] := hi
    by_cases hlt : j < s.ws.length
    · rw [getD_append_l hlt] at hi; exact h.wlt j hlt i hi
    · rw [getD_append_r (by omega)] at hi
      have : ([[]] : List (List Nat)).getD (j - s.ws.length) [] = [] := by
        match j - s.ws.length with
        | 0 => rfl
        | k + 1 => rfl
      rw [this] at hi; simp at hi
theorem tr0_take {og : List (List Int)} {k : Nat} (hk : k < og.length) : tr0 (og.take (k + 1)) = (tr0 (og.take k)).inp (og.getD k []) ∧ og.take (k + 1) = og.take k ++ [og.getD k []] := by
  have e : og.take (k + 1) = og.take k ++ [og.getD k []] := by rw [List.take_succ_eq_append_getElem hk, List.getD_eq_getElem?_getD, List.getElem?_eq_getElem hk]; rfl
  exact ⟨by rw [e, tr0_snoc], e⟩
theorem TrI.zero (xs : List Stp) : TrI [] xs 0 (tr0 []) [] [] := ⟨Mir.zero, rfl, rfl, by simp [tr0], fun i hi => by simp [tr0] at hi, fun i hi => by simp [tr0] at hi, fun j hj => by simp [tr0] at hj, fun j h1 h2 => by simp at h2⟩
theorem TrI.len {og : List (List Int)} {xs : List Stp} {k : Nat} {s : TrS} {L : List (List Int)} {G : List Bool} (h : TrI og xs k s L G) : s.ts.length ≤ k ∧ s.S.cl.length = og.length + s.ts.length ∧ s.ws.length = og.length + s.ts.length := by
  have h1 : s.ts.length ≤ k := by
    have nd : s.ts.Nodup := h.up.imp (fun hab => Nat.ne_of_lt hab)
    have := nd.length_le_of_subset (l₂ := List.range k) (fun i hi => List.mem_range.2 (h.lt i hi))
    simpa using this
  have h2 : L.length = og.length + s.ts.length := by rw [h.le]; simp
  exact ⟨h1, by rw [h.mir.size, h2], by rw [h.wl, h2]⟩
theorem RecX.start {w w1 : World} {r : Nat} (h : OwnX w w1 r RS0 (fun _ => False)) : RecR w w1.heap.size r (tr0 []) (w1.alloc (.cells #[kp r, .slice none 0 0, .slice none 0 0] 91)) := by
  have hb := below_new1 w1 (.cells #[kp r, .slice none 0 0, .slice none 0 0] 91)
  refine ⟨.slice none 0 0, .slice none 0 0, [], ⟨(h.fresh (fun g hg => ?_)).below hb, Blk.new _ _ _, World.ownsRow_nil _ _ _ _, Cls.nil _ _, World.ownsRow_nil _ _ _ _, h.b.size, fun g hg => by simp [Value.ownBlock] at hg, fun g hg => by simp [Value.ownBlock] at hg⟩⟩
  rcases hg with (e | e | e | ⟨u, hu, -⟩) | e
  · exact .inr (by omega)
  · simp [Value.ownBlock] at e
  · simp [Value.ownBlock] at e
  · simp at hu
  · exact e.elim
theorem res3 {W : World} {rs : Nat} {a b c x y z : Value} (h : Blk W rs 60 #[a, b, c]) : Blk (((W.setCell ⟨rs, 0, none⟩ x).setCell ⟨rs, 1, none⟩ y).setCell ⟨rs, 2, none⟩ z) rs 60 #[x, y, z] :=
  ((h.set_ 0 x).set_ 1 y).set_ 2 z
theorem res3_below {w W : World} {rs : Nat} {x y z : Value} (hb : Below w.heap.size w W) (hr : rs = w.heap.size) : Below w.heap.size w (((W.setCell ⟨rs, 0, none⟩ x).setCell ⟨rs, 1, none⟩ y).setCell ⟨rs, 2, none⟩ z) :=
  hb.trans (((((Chg.refl (fun g => g = rs) W).setCell (p := ⟨rs, 0, none⟩) (.inl rfl) _).setCell (p := ⟨rs, 1, none⟩) (.inl rfl) _).setCell (p := ⟨rs, 2, none⟩) (.inl rfl) _).below hb.size (fun i hi => by rw [hi, hr]; exact Nat.le_refl _))
theorem prf_bad {w W : World} {og : List (List Int)} {xs : List Stp} {goal : List Int} {ans : Int} {k : Nat} (ha : ans = chkD og xs goal) (hf : ans = (k : Int)) (hb : Below w.heap.size w W) : PrfQ w og xs goal (.returned (.agg #[(Value.slice none 0 0), (Value.slice none 0 0), .int .i64 (k : Nat)])) W :=
  ⟨(Value.slice none 0 0), (Value.slice none 0 0), by rw [← ha, hf], hb, fun e => by rw [← ha, hf] at e; omega, fun _ => ⟨rfl, rfl⟩⟩
theorem chg_cell {ob : Nat} {a b : World} (h : Chg (fun i => i = ob) a b) {p : Addr} {v : Value} (hv : a.cell? p = some v) (hn : p.block ≠ ob) : b.cell? p = some v := by
  have hlt := World.block_lt_of_cell? a p hv
  rw [World.cell?_of_block (w := a) (h.block p.block hlt hn)]; exact hv
theorem cellsNew (w : World) (a : Array Value) (e : TypeId) : ∀ (j : Nat) (u : Value), a.toList[j]? = some u → (w.alloc (.cells a e)).cell? ⟨w.heap.size, 0 + j, none⟩ = some u := fun j u hj => by
  rw [Nat.zero_add]
  have := (Blk.new w e a).cell j
  rw [this]
  simpa using hj
theorem row_formI {w : World} {e : TypeId} {v : Value} {n : Nat} {xs : List Value} (h : Row w e 1 v n xs) : ∃ a c, v = .slice a n c := by
  rcases h.form with ⟨e, e0, -⟩ | ⟨g, cap, e, -⟩
  · exact ⟨none, 0, by rw [e, e0]⟩
  · exact ⟨_, cap, e⟩
/-- Between two steps of a proof. -/
def TrC (wS : World) (rb r : Nat) (og : List (List Int)) (xs : List Stp) (goal : List Int) (ans : Int) (k : Nat) (wr : World) : Prop :=
  RecR wS rb r (trK og xs k) wr ∧ ∃ L G, TrI og xs k (trK og xs k) L G ∧ chkF (thereL L G) goal (xs.drop k) k = ans
set_option maxHeartbeats 8000000 in
set_option maxRecDepth 100000 in
theorem trim_Proof {w : World} {v s u : Value} {og : List (List Int)} {xs : List Stp} {goal : List Int} (h : IntsS w v og) (hs : StpS w s xs) (hu : Ints w u goal) (ho : ∀ d ∈ og, Lit30s d ∧ d.length ≤ 1000000) (hx : ∀ x ∈ xs, okX x) (hl : og.length ≤ 100) (hl2 : xs.length ≤ 100) (hg : Lit30s goal) (hgl : goal.length ≤ 1000000) :
    Calls Try.prog 31 #[v, s, u] w (PrfQ w og xs goal) := by
  have hmf : ∀ (fn : Fn) (first cap : Array Value) (w : World), (Instr.makeFunc fn first cap).run Try.prog w = .ok (.func fn first cap) w := fun _ _ _ _ => rfl
  obtain ⟨rs, hrs⟩ : ∃ rs, rs = w.heap.size := ⟨_, rfl⟩
  obtain ⟨wS, hwS⟩ : ∃ wS, wS = w.alloc (.cells #[.slice none 0 0, .slice none 0 0, .int .i64 0] 60) := ⟨_, rfl⟩
  have hbS : Below w.heap.size w wS := by rw [hwS]; exact below_new1 w _
  have HBS : Hid (Blk wS rs 60 #[.slice none 0 0, .slice none 0 0, .int .i64 0]) := Lib.hid (by rw [hwS, hrs]; exact Blk.new _ _ _)
  have HNW := Lib.hid (ownX_new wS)
  obtain ⟨A, cap, hve, -, -⟩ := h.form
  obtain ⟨sa, sc, hse, -, -⟩ := hs.form
  obtain ⟨ua, uc, hue, -, -⟩ := hu.form2
  have HV := Lib.hid (h.below hbS)
  have HS := Lib.hid (hs.below hbS)
  have HU := Lib.hid (hu.below hbS)
  have HO := Lib.hid ho
  have HX := Lib.hid hx
  have HG := Lib.hid hg
  have HGL := Lib.hid hgl
  obtain ⟨ans, hans⟩ : ∃ ans, ans = chkD og xs goal := ⟨_, rfl⟩
  have HA := Lib.hid hans
  obtain ⟨m, hm⟩ : ∃ m, m = og.length := ⟨_, rfl⟩
  obtain ⟨n, hn⟩ : ∃ n, n = xs.length := ⟨_, rfl⟩
  have HM := Lib.hid hm
  have HN := Lib.hid hn
  have HBW := Lib.hid hbS
  rw [← hm] at hve hl
  rw [← hn] at hse hl2
  generalize goal.length = gl at hue
  subst hve hse hue
  have HW := Lib.hid hwS
  have HRS := Lib.hid hrs
  clear h hs hu ho hx hg hgl hans hm hn hwS hrs hbS
  go_enter Try.func31, Try.ntmps31
  go_wp2_with fail
  rw [← HW.out, ← HRS.out]
  refine HNW.out.mono ?_
  rintro e w1 ⟨r, rfl, h1⟩
  obtain ⟨rb, hrb⟩ : ∃ rb, rb = w1.heap.size := ⟨_, rfl⟩
  have h2 := RecX.start h1
  rw [← hrb] at h2
  have H2 := Lib.hid h2
  have HRB := Lib.hid hrb
  clear h1 HNW h2 hrb
  go_wp2
  rw [← HRB.out]
  go_loopw [23] (fun i WW => ∃ k : Nat, k ≤ m ∧ i = .int .i64 (k : Nat) ∧ RecR wS rb r (tr0 (og.take k)) WW ∧ TrI (og.take k) xs 0 (tr0 (og.take k)) (og.take k) (List.replicate k false)) (fun i _ => m - (intOf i).toNat)
  case atStart => exact ⟨0, Nat.zero_le _, rfl, by rw [HRB.out]; have := H2.out; rw [HRB.out] at this; exact this, TrI.zero xs⟩
  case round =>
    obtain ⟨k, hk, rfl, ⟨hv, tv, us, hRX⟩, hTI⟩ := hrel
    have HRX := Lib.hid hRX
    have HTI := Lib.hid hTI
    by_cases hlt : (k : Int) < (m : Int)
    · have hkn : k < og.length := by have := HM.out; omega
      obtain ⟨b, off, cap2, e, hv2, q0, he⟩ := (HV.out.below hRX.x.b).at_ hkn
      injection hv2 with e1 e2 e3
      subst e1
      obtain ⟨c, hc⟩ : ∃ c, c = og.getD k [] := ⟨_, rfl⟩
      rw [← hc] at he
      have hmem : c ∈ og := by rw [hc]; exact getD_in hkn
      obtain ⟨l1, l2, l3⟩ := hTI.len
      rw [List.length_take] at l2 l3
      have hIN := trim_input hRX (by omega) (by omega) he (HO.out c hmem).1 (HO.out c hmem).2
      obtain ⟨t1, t2⟩ := tr0_take hkn
      rw [← hc] at t1 t2
      have HR2 : Hid (∀ W, RecR wS rb r (TrS.inp ⟨(tr0 (og.take k)).S, (tr0 (og.take k)).ws, (tr0 (og.take k)).ts⟩ c) W → RecR wS rb r (tr0 (og.take (k + 1))) W) := Lib.hid fun W hW => by rw [t1]; exact hW
      have HT2 : Hid (TrI (og.take (k + 1)) xs 0 (tr0 (og.take (k + 1))) (og.take (k + 1)) (List.replicate (k + 1) false)) := Lib.hid (by
        rw [t1, t2, List.replicate_succ']
        exact hTI.inp hRX.x.set (HO.out c hmem).1)
      have HIN := Lib.hid hIN
      obtain ⟨ea, ec, hee, -, -⟩ := he.form2
      generalize c.length = el at hee
      subst hee
      clear hRX hTI e2 e3 he hc hmem hkn l1 l2 l3 hIN t1 t2
      go_wp2_with fail
      refine HIN.out.mono ?_
      rintro e w2 ⟨rfl, h2⟩
      have H2 := Lib.hid (HR2.out _ h2)
      clear h2
      go_wp2
      go_roundw
      case rel => exact ⟨k + 1, by omega, by go_num, H2.out, HT2.out⟩
      case measure => simp [intOf]; omega
    · have hkm : k = m := by omega
      have HR0 : Hid (TrC wS rb r og xs goal ans 0 wr) := Lib.hid (by
        have h1 := hTI
        rw [hkm, HM.out, List.take_length] at h1
        refine ⟨?_, og, List.replicate og.length false, h1, ?_⟩
        · have h2 : RecR wS rb r (tr0 (og.take k)) wr := ⟨hv, tv, us, hRX⟩
          rw [hkm, HM.out, List.take_length] at h2
          exact h2
        · rw [thereL_rep, List.drop_zero, HA.out, chkF_zero])
      clear hRX hTI hkm
      go_wp2
      go_loopw [35] (fun i WW => ∃ k : Nat, k ≤ n ∧ i = .int .i64 (k : Nat) ∧ TrC wS rb r og xs goal ans k WW) (fun i _ => n - (intOf i).toNat)
      case atStart => exact ⟨0, Nat.zero_le _, rfl, HR0.out⟩
      case round =>
        obtain ⟨k, hk, rfl, ⟨hv, tv, us, hRX⟩, L, G, hTI, hck⟩ := hrel
        have HTI := Lib.hid hTI
        obtain ⟨l1, l2, l3⟩ := hTI.len
        by_cases hlt : (k : Int) < (n : Int)
        · have hkn : k < xs.length := by have := HN.out; omega
          obtain ⟨b, off, cap2, u, hv2, q0, q1, hu⟩ := HS.out.at_ hkn
          injection hv2 with e1 e2 e3
          subst e1
          have q0 := cellB q0 hRX.x.b
          have q1 := cellB q1 hRX.x.b
          obtain ⟨x, hx⟩ : ∃ x, x = xs.getD k (false, []) := ⟨_, rfl⟩
          rw [← hx] at q0 hu
          have hd : xs.drop k = x :: xs.drop (k + 1) := by rw [List.drop_eq_getElem_cons hkn, hx, List.getD_eq_getElem?_getD, List.getElem?_eq_getElem hkn]; rfl
          have hokx : okX x := HX.out x (by rw [hx, List.getD_eq_getElem?_getD, List.getElem?_eq_getElem hkn]; exact List.getElem_mem hkn)
          have hput : trK og xs (k + 1) = (trK og xs k).put k x := by rw [trK, ← hx]
          rw [hd] at hck
          obtain ⟨g, c⟩ := x
          have hu : Ints wS u c := hu
          have q0 : wr.cell? ⟨b, off + k * 2, none⟩ = some (.bool g) := q0
          have hck : chkF (thereL L G) goal ((g, c) :: xs.drop (k + 1)) k = ans := hck
          have hokx : Lit30s c ∧ c.length ≤ 1000000 := hokx
          have HCK := Lib.hid hck
          have HXE := Lib.hid hx
          have HPUT := Lib.hid hput
          have HSET := Lib.hid hRX.x.set
          have HC := Lib.hid hokx
          obtain ⟨ua2, uc2, hue, -, -⟩ := hu.form2
          subst hue
          obtain ⟨wB, hwB⟩ : ∃ wB, wB = wr.alloc (.cells #[.bool g, .slice ua2 c.length uc2] 52) := ⟨_, rfl⟩
          have hbB : Below wr.heap.size wr wB := by rw [hwB]; exact (Below.refl _ wr).alloc (Nat.le_refl _) _
          have hmo := HM.out
          have HSTP := Lib.hid (trim_step (hRX.below hbB) (by omega) (by omega) (by omega) hu (g := g) hokx.1 hokx.2 k)
          generalize c.length = cn at q1 hwB HSTP
          clear hRX hTI e2 e3 hx hd hokx hu hkn hck hput l1 l2 l3 hbB hmo
          go_wp2_with fail
          rw [← hwB]
          refine HSTP.out.mono ?_
          rintro e w5 ⟨b5, rfl, hb5, hgone, hmore⟩
          have HB5 := Lib.hid (HBW.out.trans (hb5.mono HBW.out.size))
          have HRB5 : Hid (Blk w5 rs 60 #[.slice none 0 0, .slice none 0 0, .int .i64 0]) := Lib.hid (HBS.out.below hb5 HBS.out.lt)
          cases g with
          | true =>
            obtain ⟨hb0, hrec⟩ := hgone rfl
            rcases seekL_spec c L G HTI.out.mir.len with ⟨hs0, -⟩ | ⟨kk, hs0, -, -, -⟩
            · obtain ⟨r1, r2, r3⟩ := HTI.out.mir.rem_none hs0
              have HF : Hid (ans = (k : Int)) := Lib.hid (by rw [← HCK.out, chkF_gone_none r1])
              have hb : b5 = false := by rw [hb0]; exact r2
              clear hb0 hgone hmore
              subst hb
              clear r1 r2 r3 hs0 hwB hrec hb5
              have k0 : w5.cell? ⟨rs, 0, none⟩ = some (.slice none 0 0) := HRB5.out.cell 0
              have k1 : w5.cell? ⟨rs, 1, none⟩ = some (.slice none 0 0) := HRB5.out.cell 1
              have k2 : w5.cell? ⟨rs, 2, none⟩ = some (.int .i64 0) := HRB5.out.cell 2
              have f0 : w5.frozen? ⟨rs, 0, none⟩ = false := HRB5.out.frozen 0
              have f1 : w5.frozen? ⟨rs, 1, none⟩ = false := HRB5.out.frozen 1
              have f2 : w5.frozen? ⟨rs, 2, none⟩ = false := HRB5.out.frozen 2
              go_wp2
              try rw [Exit.noGoto_ret]
              obtain ⟨WF, hWF⟩ : ∃ WF, WF = ((w5.setCell ⟨rs, 0, none⟩ (.slice none 0 0)).setCell ⟨rs, 1, none⟩ (.slice none 0 0)).setCell ⟨rs, 2, none⟩ (.int .i64 (k : Nat)) := ⟨_, rfl⟩
              have hBF : Blk WF rs 60 #[(Value.slice none 0 0), (Value.slice none 0 0), .int .i64 (k : Nat)] := by rw [hWF]; exact res3 HRB5.out
              have hLF : Below w.heap.size w WF := by rw [hWF]; exact res3_below HB5.out HRS.out
              have z0 : WF.cell? ⟨rs, 0, none⟩ = some (Value.slice none 0 0) := hBF.cell 0
              have z1 : WF.cell? ⟨rs, 1, none⟩ = some (Value.slice none 0 0) := hBF.cell 1
              have z2 : WF.cell? ⟨rs, 2, none⟩ = some (.int .i64 (k : Nat)) := hBF.cell 2
              rw [← hWF]
              refine bodyPost_ret (v := .agg #[(Value.slice none 0 0), (Value.slice none 0 0), .int .i64 (k : Nat)]) (by simp [results, Try.results31, go_sem, z0, z1, z2]) rfl (prf_bad HA.out HF.out hLF)
            · obtain ⟨r1, r2, r3, r4⟩ := HTI.out.mir.rem_some HSET.out hs0
              have hb : b5 = true := by rw [hb0]; exact r3
              clear hb0 hgone hmore
              subst hb
              have HC5 : Hid (TrC wS rb r og xs goal ans (k + 1) w5) := Lib.hid (by
                have e : trK og xs (k + 1) = ⟨(trK og xs k).S.rem (normC c), (trK og xs k).ws, (trK og xs k).ts⟩ := by rw [HPUT.out]; unfold TrS.put; rw [if_pos rfl]
                refine ⟨by rw [e]; exact hrec, L, G.set kk true, by rw [e]; exact HTI.out.gone r1, ?_⟩
                have := HCK.out
                rw [chkF_gone_some r2] at this
                exact this)
              clear r1 r2 r3 r4 hs0 hwB hrec hb5
              go_wp2
              go_roundw
              case rel => exact ⟨k + 1, by omega, by go_num, HC5.out⟩
              case measure => simp [intOf]; omega
          | false =>
            obtain ⟨R, hy, hrec⟩ := hmore rfl
            cases b5 with
            | false =>
              have hop : OpenS (trK og xs k).S c := Classical.byContradiction fun hn => by have := hy.yes.2 hn; cases this
              have HF : Hid (ans = (k : Int)) := Lib.hid (by rw [← HCK.out, chkF_no (HTI.out.mir.open_.1 hop)])
              clear hy hrec hop hwB hgone hmore hb5
              have k0 : w5.cell? ⟨rs, 0, none⟩ = some (.slice none 0 0) := HRB5.out.cell 0
              have k1 : w5.cell? ⟨rs, 1, none⟩ = some (.slice none 0 0) := HRB5.out.cell 1
              have k2 : w5.cell? ⟨rs, 2, none⟩ = some (.int .i64 0) := HRB5.out.cell 2
              have f0 : w5.frozen? ⟨rs, 0, none⟩ = false := HRB5.out.frozen 0
              have f1 : w5.frozen? ⟨rs, 1, none⟩ = false := HRB5.out.frozen 1
              have f2 : w5.frozen? ⟨rs, 2, none⟩ = false := HRB5.out.frozen 2
              go_wp2
              try rw [Exit.noGoto_ret]
              obtain ⟨WF, hWF⟩ : ∃ WF, WF = ((w5.setCell ⟨rs, 0, none⟩ (.slice none 0 0)).setCell ⟨rs, 1, none⟩ (.slice none 0 0)).setCell ⟨rs, 2, none⟩ (.int .i64 (k : Nat)) := ⟨_, rfl⟩
              have hBF : Blk WF rs 60 #[(Value.slice none 0 0), (Value.slice none 0 0), .int .i64 (k : Nat)] := by rw [hWF]; exact res3 HRB5.out
              have hLF : Below w.heap.size w WF := by rw [hWF]; exact res3_below HB5.out HRS.out
              have z0 : WF.cell? ⟨rs, 0, none⟩ = some (Value.slice none 0 0) := hBF.cell 0
              have z1 : WF.cell? ⟨rs, 1, none⟩ = some (Value.slice none 0 0) := hBF.cell 1
              have z2 : WF.cell? ⟨rs, 2, none⟩ = some (.int .i64 (k : Nat)) := hBF.cell 2
              rw [← hWF]
              refine bodyPost_ret (v := .agg #[(Value.slice none 0 0), (Value.slice none 0 0), .int .i64 (k : Nat)]) (by simp [results, Try.results31, go_sem, z0, z1, z2]) rfl (prf_bad HA.out HF.out hLF)
            | true =>
              have hop : ¬ OpenN (thereL L G) c := fun hn => (hy.yes.1 rfl) (HTI.out.mir.open_.2 hn)
              have HC5 : Hid (TrC wS rb r og xs goal ans (k + 1) w5) := Lib.hid (by
                have e : trK og xs (k + 1) = ⟨(trK og xs k).S.add (normC c), (trK og xs k).ws ++ [R], (trK og xs k).ts ++ [k]⟩ := by
                  rw [HPUT.out, show R = whyF (trK og xs k).S c from hy.eqF]; unfold TrS.put; rw [if_neg (by simp)]
                refine ⟨by rw [e]; exact hrec rfl, L ++ [c], G ++ [false], by rw [e]; exact HTI.out.more HXE.out.symm hy (HTI.out.mir.add HSET.out HC.out.1), ?_⟩
                have := HCK.out
                rw [chkF_yes hop] at this
                rw [thereL_snoc c L G HTI.out.mir.len]
                exact this)
              clear hy hrec hop hwB hgone hmore hb5
              go_wp2
              go_roundw
              case rel => exact ⟨k + 1, by omega, by go_num, HC5.out⟩
              case measure => simp [intOf]; omega
        · have hkn : k = n := by omega
          have hck : chkF (thereL L G) goal [] k = ans := by
            rw [List.drop_eq_nil_of_le (by have := HN.out; omega)] at hck
            exact hck
          obtain ⟨s9, hs9⟩ : ∃ s9, s9 = trK og xs k := ⟨_, rfl⟩
          have HS9 : Hid (s9 = trEnd og xs) := Lib.hid (by rw [hs9, hkn, HN.out]; rfl)
          rw [← hs9] at hRX l1 l2 l3
          have HTI9 : Hid (TrI og xs xs.length s9 L G) := Lib.hid (by rw [hs9, ← HN.out, ← hkn]; exact HTI.out)
          have hmo := HM.out
          have HRX := Lib.hid hRX
          have HLN := Lib.hid l1
          have HLW := Lib.hid l3
          have HCK := Lib.hid hck
          have HKN := Lib.hid hkn
          have HWY := Lib.hid (hRX.why (fun g hg => hg.elim) (by omega) (HU.out.below hRX.x.b) HG.out HGL.out)
          have r0 : wr.cell? ⟨rb, 0, none⟩ = some (kp r) := hRX.b.cell 0
          have hml9 : s9.ws.length ≤ 9999 := by omega
          have HML9 := Lib.hid hml9
          clear hRX hTI hck l1 l2 l3 hs9 hkn hmo HTI hml9
          go_wp2_with fail
          refine HWY.out.mono ?_
          rintro e w5 ⟨v5, is, R, rfl, hy, h5, hi5, ho5, -⟩
          have hb5 := h5.x.b
          have HB5 := Lib.hid (HBW.out.trans (hb5.mono HBW.out.size))
          have HRB5 : Hid (Blk w5 rs 60 #[.slice none 0 0, .slice none 0 0, .int .i64 0]) := Lib.hid (HBS.out.below hb5 HBS.out.lt)
          cases is with
          | false =>
            have hop : OpenS s9.S goal := Classical.byContradiction fun hn => by have := hy.yes.2 hn; cases this
            have HF : Hid (ans = (n : Int)) := Lib.hid (by rw [← HCK.out, chkF_end_open (HTI9.out.mir.open_.1 hop), HKN.out])
            clear hy h5 hi5 ho5 hop hb5 r0
            have k0 : w5.cell? ⟨rs, 0, none⟩ = some (.slice none 0 0) := HRB5.out.cell 0
            have k1 : w5.cell? ⟨rs, 1, none⟩ = some (.slice none 0 0) := HRB5.out.cell 1
            have k2 : w5.cell? ⟨rs, 2, none⟩ = some (.int .i64 0) := HRB5.out.cell 2
            have f0 : w5.frozen? ⟨rs, 0, none⟩ = false := HRB5.out.frozen 0
            have f1 : w5.frozen? ⟨rs, 1, none⟩ = false := HRB5.out.frozen 1
            have f2 : w5.frozen? ⟨rs, 2, none⟩ = false := HRB5.out.frozen 2
            go_wp2
            try rw [Exit.noGoto_ret]
            obtain ⟨WF, hWF⟩ : ∃ WF, WF = ((w5.setCell ⟨rs, 0, none⟩ (.slice none 0 0)).setCell ⟨rs, 1, none⟩ (.slice none 0 0)).setCell ⟨rs, 2, none⟩ (.int .i64 (n : Nat)) := ⟨_, rfl⟩
            have hBF : Blk WF rs 60 #[(Value.slice none 0 0), (Value.slice none 0 0), .int .i64 (n : Nat)] := by rw [hWF]; exact res3 HRB5.out
            have hLF : Below w.heap.size w WF := by rw [hWF]; exact res3_below HB5.out HRS.out
            have z0 : WF.cell? ⟨rs, 0, none⟩ = some (Value.slice none 0 0) := hBF.cell 0
            have z1 : WF.cell? ⟨rs, 1, none⟩ = some (Value.slice none 0 0) := hBF.cell 1
            have z2 : WF.cell? ⟨rs, 2, none⟩ = some (.int .i64 (n : Nat)) := hBF.cell 2
            rw [← hWF]
            refine bodyPost_ret (v := .agg #[(Value.slice none 0 0), (Value.slice none 0 0), .int .i64 (n : Nat)]) (by simp [results, Try.results31, go_sem, z0, z1, z2]) rfl (prf_bad HA.out HF.out hLF)
          | true =>
            have HF : Hid (ans = -1) := Lib.hid (by rw [← HCK.out, chkF_end (fun hn => (hy.yes.1 rfl) (HTI9.out.mir.open_.2 hn))])
            obtain ⟨ob, hob⟩ : ∃ ob, ob = w5.heap.size := ⟨_, rfl⟩
            obtain ⟨wO, hwO⟩ : ∃ wO, wO = w5.alloc (.cells #[(Value.slice none 0 0), (Value.slice none 0 0), .int .i64 (-1)] 60) := ⟨_, rfl⟩
            have hbO : Below w5.heap.size w5 wO := by rw [hwO]; exact below_new1 w5 _
            have hBO : Blk wO ob 60 #[(Value.slice none 0 0), (Value.slice none 0 0), .int .i64 (-1)] := by rw [hwO, hob]; exact Blk.new _ _ _
            have hon : ∀ i ∈ R, i < s9.ws.length := fun i hi => by
              have := (hy.on i hi).1
              have := HTI9.out.len
              omega
            have hO5 := h5.below hbO
            have HND := Lib.hid (trim_needed hO5 HML9.out HTI9.out.wlt (hi5.below hbO) hon)
            have HHY := Lib.hid hy
            have HH5 := Lib.hid hO5
            have HOB := Lib.hid hBO
            have HWO := Lib.hid hwO
            have HOBE := Lib.hid hob
            have HOL : Hid (∀ g, XR rb hv tv us g → g < ob) := Lib.hid fun g hg => by rw [hob]; exact h5.lt g hg
            have HLO : Hid (wS.heap.size ≤ ob) := Lib.hid (by rw [hob]; exact hb5.size)
            clear hy h5 hi5 ho5 hb5 hbO hBO hon hO5 hob r0 hwO
            go_wp2_with fail
            rw [← HWO.out, ← HOBE.out]
            refine HND.out.mono ?_
            rintro e w6 ⟨rfl, h6⟩
            obtain ⟨g, hg⟩ : ∃ g, g = wO.heap.size := ⟨_, rfl⟩
            obtain ⟨N, hN⟩ : ∃ N, N = s9.ws.length := ⟨_, rfl⟩
            obtain ⟨M, hMe⟩ : ∃ M, M = need s9.ws R := ⟨_, rfl⟩
            rw [← hg, ← hN, ← hMe] at h6
            rw [← hg, ← hN]
            have hgo : g ≠ ob := by have := HOB.out.lt; omega
            have hgl : g < w6.heap.size := by
              rcases Nat.eq_zero_or_pos N with h0 | h0
              · have := h6.r.lt g rfl; exact this
              · exact h6.r.lt g rfl
            have hrec := HH5.out.below h6.b
            have HMB : Hid (∀ W, Chg (fun i => i = ob) w6 W → ∀ k, k < N → W.cell? ⟨g, k, none⟩ = some (.bool (M.getD k false))) := Lib.hid fun W hW k hk => by
              rw [World.cell?_of_block (w := w6) (hW.block g hgl hgo)]
              exact (h6.cell hk).1
            have HB6 : Hid (Below wS.heap.size wS w6) := Lib.hid hrec.x.b
            have HBW6 : Hid (∀ W, Chg (fun i => i = ob) w6 W → Below wS.heap.size wS W) := Lib.hid fun W hW => HB6.out.trans (hW.below HB6.out.size (fun i hi => by rw [hi]; exact HLO.out))
            have HTV : Hid (∀ W, Chg (fun i => i = ob) w6 W → W.cell? ⟨rb, 2, none⟩ = some tv ∧ ∀ q, q < s9.ts.length → ∃ gt cp, tv = .slice (some ⟨gt, 0, none⟩) s9.ts.length cp ∧ W.cell? ⟨gt, q, none⟩ = some (.int .i64 ((s9.ts.getD q 0 : Nat) : Int))) := Lib.hid fun W hW => by
              refine ⟨(hrec.b.chg hW (fun e => by have := HOL.out rb (.inl rfl); omega)).cell 2, fun q hq => ?_⟩
              have hrow := hrec.t.chg hW (fun i hi e => by have := HOL.out i (.inr (.inr (.inl hi))); omega)
              rcases hrow.form with ⟨-, e0, -⟩ | ⟨gt, cp, e, -, -, -, hc⟩
              · omega
              · refine ⟨gt, cp, e, ?_⟩
                rw [(hc q (by rw [List.length_map]; exact hq)).1, List.getD_eq_getElem?_getD, List.getElem?_map, List.getElem?_eq_getElem hq, List.getD_eq_getElem?_getD, List.getElem?_eq_getElem hq]
                rfl
            have HPR : Hid (∀ W, Chg (fun i => i = ob) w6 W → ∀ i, i < n → ∃ b off au cu, sa = some ⟨b, off, none⟩ ∧ b < wS.heap.size ∧ W.cell? ⟨b, off + i * 2 + 1, none⟩ = some (.slice au (stC xs i).length cu) ∧ Ints wS (.slice au (stC xs i).length cu) (stC xs i)) := Lib.hid fun W hW i hi => by
              obtain ⟨b, off, cap2, u, hv2, -, q1, hu⟩ := HS.out.at_ (j := i) (by have := HN.out; omega)
              injection hv2 with e1 e2 e3
              have hb := HBW6.out W hW
              obtain ⟨au, cu, hue, -, -⟩ := hu.form2
              rw [hue] at q1 hu
              exact ⟨b, off, au, cu, e1, World.block_lt_of_cell? _ _ q1, cellB q1 hb, hu⟩
            have HOS : Hid (OutS w6 w6 ob (Value.slice none 0 0) (Value.slice none 0 0) [] [] []) := Lib.hid (OutS.start (HOB.out.below h6.b HOB.out.lt))
            have HL9 : Hid (N = m + s9.ts.length ∧ s9.ts.length ≤ n ∧ (∀ i ∈ s9.ts, i < n) ∧ L = og ++ s9.ts.map (stC xs) ∧ (∀ i ∈ s9.ts, (stC xs i).length ≤ 1000000)) := Lib.hid (by
              obtain ⟨t1, t2, t3⟩ := HTI9.out.len
              refine ⟨by rw [hN, t3, HM.out], by rw [HN.out]; exact t1, fun i hi => by rw [HN.out]; exact HTI9.out.lt i hi, HTI9.out.le, fun i hi => ?_⟩
              have hil := HTI9.out.lt i hi
              exact (HX.out (xs.getD i (false, [])) (by rw [List.getD_eq_getElem?_getD, List.getElem?_eq_getElem hil]; exact List.getElem_mem hil)).2)
            have HNE := Lib.hid hN
            have HME := Lib.hid hMe
            have hN9 : N ≤ 9999 := by have := HML9.out; omega
            clear h6 hrec hgl hgo hN hMe hg HH5 HND
            go_wp2
            go_loopw [67] (fun i WW => ∃ (k : Nat) (uv sv : Value) (vs : List Value), k ≤ N ∧ i = .int .i64 (k : Nat) ∧ OutS w6 WW ob uv sv vs (usedU m M k) ((keptU m M k).map fun i => L.getD i [])) (fun i _ => N - (intOf i).toNat)
            case atStart => exact ⟨0, _, _, [], Nat.zero_le _, rfl, HOS.out⟩
            case round =>
              obtain ⟨k, uv, sv, vs, hk, rfl, hOS⟩ := hrel
              have HOX := Lib.hid hOS
              by_cases hlt : (k : Int) < (N : Int)
              · have qb := HMB.out wr hOS.ch k (by omega)
                obtain ⟨bit, hbit⟩ : ∃ bit, bit = M.getD k false := ⟨_, rfl⟩
                rw [← hbit] at qb
                have HBIT := Lib.hid hbit
                clear hbit
                cases bit with
                | false =>
                  have HNX : Hid (OutS w6 wr ob uv sv vs (usedU m M (k + 1)) ((keptU m M (k + 1)).map fun i => L.getD i [])) := Lib.hid (by
                    rw [usedU_succ, keptU_succ, if_neg (fun h => by rw [← HBIT.out] at h; cases h.2), if_neg (fun h => by rw [← HBIT.out] at h; cases h.2), List.append_nil, List.append_nil]
                    exact hOS)
                  clear hOS
                  go_wp2
                  go_roundw
                  case rel => exact ⟨k + 1, _, _, _, by omega, by go_num, HNX.out⟩
                  case measure => simp [intOf]; omega
                | true =>
                  by_cases hkm : (k : Int) < (m : Int)
                  · have k0 : wr.cell? ⟨ob, 0, none⟩ = some uv := hOS.b.cell 0
                    obtain ⟨un, uc2, hue⟩ := hOS.formU
                    subst hue
                    have hul : (usedU m M k).length ≤ 9999 := by
                      have := List.length_filter_le (fun i => decide (i < m) && M.getD i false) (List.range k)
                      rw [List.length_range] at this
                      have h2 : (usedU m M k).length ≤ k := this
                      omega
                    have HUL := Lib.hid hul
                    have HNX : Hid (usedU m M (k + 1) = usedU m M k ++ [k] ∧ keptU m M (k + 1) = keptU m M k) := Lib.hid ⟨by
                      rw [usedU_succ, if_pos ⟨by omega, HBIT.out.symm⟩], by rw [keptU_succ, if_neg (fun h => by have := h.1; omega), List.append_nil]⟩
                    obtain ⟨ul, hulq⟩ : ∃ ul, ul = (usedU m M k).length := ⟨_, rfl⟩
                    have HULQ := Lib.hid hulq
                    rw [← hulq] at k0 HOX
                    clear hOS hul hulq
                    go_wp2_with (at_builtin; refine wpList_appS rfl _ _ _ rfl 3 (.int .i64 0) 1 8 Try.underlying28 infoI rfl (by decide) (.slice un ul uc2) ul ((usedU m M k).map fun i : Nat => iv (i : Nat)) rfl (by rw [HULQ.out]; have := HOX.out.u; rw [HULQ.out] at this; exact this.alloc _) (some ⟨wr.heap.size, 0, none⟩) 1 1 [.int .i64 (k : Nat)] rfl (Src.one (heap_new1 _ _)) (fun u9 hu9 => by rw [List.mem_singleton.1 hu9]; rfl) (by have := HUL.out; have := HULQ.out; unfold maxLen; omega) (by have := HUL.out; have := HULQ.out; omega) ?_)
                    intro v3 w3 h3
                    obtain ⟨g3, cp3, rfl, -, -, -⟩ := h3.1.some_ (by omega)
                    have hpu : Blk w3 ob 60 #[.slice un ul uc2, sv, .int .i64 (-1)] ∧ OutS w6 (w3.setCell ⟨ob, 0, none⟩ (.slice (some ⟨g3, 0, none⟩) (ul + 1) cp3)) ob (.slice (some ⟨g3, 0, none⟩) (ul + 1) cp3) sv vs (usedU m M (k + 1)) ((keptU m M (k + 1)).map fun i => L.getD i []) := by
                      rw [HNX.out.1, HNX.out.2]
                      refine HOX.out.pushU ?_
                      rw [← HULQ.out]
                      exact h3
                    obtain ⟨hB, hO3⟩ := hpu
                    have k1 : w3.cell? ⟨ob, 0, none⟩ = some (.slice un ul uc2) := hB.cell 0
                    have r1 : w3.frozen? ⟨ob, 0, none⟩ = false := hB.frozen 0
                    have HO3 := Lib.hid hO3
                    clear h3 hB hO3
                    go_wp2
                    go_roundw
                    case rel => exact ⟨k + 1, _, _, _, by omega, by go_num, HO3.out⟩
                    case measure => simp [intOf]; omega
                  · obtain ⟨q, hq⟩ : ∃ q, k = m + q := ⟨k - m, by omega⟩
                    have hN1 := HL9.out.1
                    have hqt : q < s9.ts.length := by omega
                    have htn := HL9.out.2.1
                    have hin := HL9.out.2.2.1 _ (nat_in hqt)
                    have hcl := HL9.out.2.2.2.2 _ (nat_in hqt)
                    obtain ⟨tv2, htq⟩ := HTV.out w6 (Chg.refl _ _)
                    obtain ⟨gt, cp, hte, qt⟩ := htq q hqt
                    obtain ⟨i9, hi9⟩ : ∃ i9, i9 = s9.ts.getD q 0 := ⟨_, rfl⟩
                    rw [← hi9] at qt hin hcl
                    obtain ⟨bp, op, au, cu, hsa, hbpS, qc, hci⟩ := HPR.out w6 (Chg.refl _ _) i9 hin
                    have hLk : L.getD k [] = stC xs i9 := by
                      have := HTI9.out.le
                      rw [HL9.out.2.2.2.1, getD_append_r (by have := HM.out; omega), List.getD_eq_getElem?_getD, List.getElem?_map, show k - og.length = q by have := HM.out; omega, List.getElem?_eq_getElem hqt, hi9, List.getD_eq_getElem?_getD, List.getElem?_eq_getElem hqt]
                      rfl
                    have hNX : usedU m M (k + 1) = usedU m M k ∧ keptU m M (k + 1) = keptU m M k ++ [k] := ⟨by
                      rw [usedU_succ, if_neg (fun h => by have := h.1; omega), List.append_nil], by rw [keptU_succ, if_pos ⟨by omega, HBIT.out.symm⟩]⟩
                    have hkl : ((keptU m M k).map fun i => L.getD i []).length ≤ 9999 := by
                      have := List.length_filter_le (fun i => decide (m ≤ i) && M.getD i false) (List.range k)
                      rw [List.length_range] at this
                      have h2 : (keptU m M k).length ≤ k := this
                      rw [List.length_map]
                      omega
                    have HNX := Lib.hid hNX
                    have HLK := Lib.hid hLk
                    obtain ⟨cs, hcs⟩ : ∃ cs, cs = (keptU m M k).map fun i => L.getD i [] := ⟨_, rfl⟩
                    have HCS := Lib.hid hcs
                    rw [← hcs] at hkl
                    have HKL := Lib.hid hkl
                    have HCI : Hid (Ints wr (.slice au (stC xs i9).length cu) (stC xs i9)) := Lib.hid (hci.below (HBW6.out wr hOS.ch))
                    have HCLN := Lib.hid hcl
                    have HSC : Hid (∀ W, Chg (fun i => i = ob) w6 W → W.cell? ⟨rb, 2, none⟩ = some (.slice (some ⟨gt, 0, none⟩) s9.ts.length cp) ∧ W.cell? ⟨gt, q, none⟩ = some (.int .i64 (i9 : Nat)) ∧ W.cell? ⟨bp, op + i9 * 2 + 1, none⟩ = some (.slice au (stC xs i9).length cu)) := Lib.hid fun W hW => ⟨by rw [← hte]; exact chg_cell hW tv2 (by have := HOL.out rb (.inl rfl); show rb ≠ ob; omega), chg_cell hW qt (by have := HOL.out gt (.inr (.inr (.inl (by rw [hte]; rfl)))); show gt ≠ ob; omega), chg_cell hW qc (by
                      have := hbpS; have := HLO.out; show bp ≠ ob; omega)⟩
                    have HSD : Hid (∀ W, Below wr.heap.size wr W → (W.cell? ⟨rb, 2, none⟩ = some (.slice (some ⟨gt, 0, none⟩) s9.ts.length cp) ∧ W.cell? ⟨gt, q, none⟩ = some (.int .i64 (i9 : Nat)) ∧ W.cell? ⟨bp, op + i9 * 2 + 1, none⟩ = some (.slice au (stC xs i9).length cu)) ∧ W.cell? ⟨ob, 1, none⟩ = some sv) := Lib.hid fun W hW => ⟨HSC.out W (hOS.ch.trans (Chg.of_below (S := fun _ => False) hW) (fun i hi => hi.elim)), cellB (hOS.b.cell 1) hW⟩
                    have hw1 : IntKind.i64.wrap ((k : Int) - (m : Int)) = (q : Int) := by rw [IntWalk.i64_in _ (by omega)]; omega
                    have HCN : Hid (∀ W, Below wr.heap.size wr W → Calls Try.prog 62 #[.slice au (stC xs i9).length cu] W fun e w' => ∃ u, e = .returned u ∧ ClonePost W (stC xs i9) u w') := Lib.hid fun W hW => slices_Clone (HCI.out.below hW) (by have := HCLN.out; omega)
                    unfold ClonePost at HCN
                    have kd : wr.cell? ⟨ob, 1, none⟩ = some sv := hOS.b.cell 1
                    have hq0 : (q : Int) < (s9.ts.length : Int) := by omega
                    have hi0 : (i9 : Int) < (n : Int) := by omega
                    have HQ := Lib.hid hq
                    have HI9 := Lib.hid hi9
                    obtain ⟨cl, hcle⟩ : ∃ cl, cl = (stC xs i9).length := ⟨_, rfl⟩
                    have HCLE := Lib.hid hcle
                    rw [← hcle] at HSD HSC HCN HCI
                    obtain ⟨tn, htne⟩ : ∃ tn, tn = s9.ts.length := ⟨_, rfl⟩
                    rw [← htne] at HSD HSC hq0
                    subst hsa
                    clear hOS hq hN1 hqt htn hin hcl tv2 htq hte qt hi9 qc hci hLk hNX hcs hkl hcle htne
                    go_wp2
                    refine wp_region_held_drew (S := (fun w' => w'.cell? ⟨rb, 2, none⟩ = some (.slice (some ⟨gt, 0, none⟩) tn cp) ∧ w'.cell? ⟨gt, q, none⟩ = some (.int .i64 (i9 : Nat)) ∧ w'.cell? ⟨bp, op + i9 * 2 + 1, none⟩ = some (.slice au cl cu))) (by kernel_rfl) ?_ (fun hHeld => ?_)
                    · (try dsimp only) <;> exact (HSD.out _ ((Below.refl _ wr).drew)).1
                    refine wpAnyH_take (i := 0) (v := ?_) rfl (by kernel_rfl) (by kernel_rfl) (by kernel_rfl) (fun _ _ _ h => h) (Or.inl ⟨by rfl, ?_⟩) (by assumption) ?_
                    rotate_left
                    · (intro w hSw; (try dsimp only at hSw); go_simp; try with_reducible rfl)
                    try simp only [Act.put, List.setIfInBounds_toArray, List.set_cons_zero, List.set_cons_succ]
                    refine wpAnyH_take (i := 2) (v := ?_) rfl (by kernel_rfl) (by kernel_rfl) (by kernel_rfl) (fun _ _ _ h => h) (Or.inl ⟨by rfl, ?_⟩) (by assumption) ?_
                    rotate_left
                    · (intro w hSw; (try dsimp only at hSw); go_simp; try with_reducible rfl)
                    try simp only [Act.put, List.setIfInBounds_toArray, List.set_cons_zero, List.set_cons_succ]
                    refine wpAnyH_take (i := 3) (v := ?_) rfl (by kernel_rfl) (by kernel_rfl) (by kernel_rfl) (fun _ _ _ h => h) (Or.inl ⟨by rfl, ?_⟩) (by assumption) ?_
                    rotate_left
                    · (intro w hSw; (try dsimp only at hSw); go_simp; try with_reducible rfl)
                    try simp only [Act.put, List.setIfInBounds_toArray, List.set_cons_zero, List.set_cons_succ]
                    refine wpAnyH_take (i := 4) (v := ?_) rfl (by kernel_rfl) (by kernel_rfl) (by kernel_rfl) (fun _ _ _ h => h) (Or.inl ⟨by rfl, ?_⟩) (by assumption) ?_
                    rotate_left
                    · (intro w hSw; (try dsimp only at hSw); go_simp; try with_reducible rfl)
                    try simp only [Act.put, List.setIfInBounds_toArray, List.set_cons_zero, List.set_cons_succ]
                    refine wpAnyH_take (i := 5) (v := ?_) rfl (by kernel_rfl) (by kernel_rfl) (by kernel_rfl) (fun _ _ _ h => h) (Or.inl ⟨by rfl, ?_⟩) (by assumption) ?_
                    rotate_left
                    · (intro w hSw; (try dsimp only at hSw); go_simp; try with_reducible rfl)
                    try simp only [Act.put, List.setIfInBounds_toArray, List.set_cons_zero, List.set_cons_succ]
                    refine wpAnyH_take (i := 6) (v := ?_) rfl (by kernel_rfl) (by kernel_rfl) (by kernel_rfl) (fun _ _ _ h => h) (Or.inl ⟨by rfl, ?_⟩) (by assumption) ?_
                    rotate_left
                    · (intro w hSw; (try dsimp only at hSw); go_simp; try with_reducible rfl)
                    try simp only [Act.put, List.setIfInBounds_toArray, List.set_cons_zero, List.set_cons_succ]
                    refine wpAnyH_take (i := 7) (v := ?_) rfl (by kernel_rfl) (by kernel_rfl) (by kernel_rfl) (fun _ _ _ h => h) (Or.inl ⟨by rfl, ?_⟩) (by assumption) ?_
                    rotate_left
                    · (intro w hSw; (try dsimp only at hSw); go_simp; try with_reducible rfl)
                    try simp only [Act.put, List.setIfInBounds_toArray, List.set_cons_zero, List.set_cons_succ]
                    refine wpAnyH_take (i := 8) (v := ?_) rfl (by kernel_rfl) (by kernel_rfl) (by kernel_rfl) (fun _ _ _ h => h) (Or.inl ⟨by rfl, ?_⟩) (by assumption) ?_
                    rotate_left
                    · (intro w hSw; (try dsimp only at hSw); go_simp; try with_reducible rfl)
                    try simp only [Act.put, List.setIfInBounds_toArray, List.set_cons_zero, List.set_cons_succ]
                    refine wpAnyH_take (i := 9) (v := ?_) rfl (by kernel_rfl) (by kernel_rfl) (by kernel_rfl) (fun _ _ _ h => h) (Or.inl ⟨by rfl, ?_⟩) (by assumption) ?_
                    rotate_left
                    · (intro w hSw; (try dsimp only at hSw); go_simp; try with_reducible rfl)
                    try simp only [Act.put, List.setIfInBounds_toArray, List.set_cons_zero, List.set_cons_succ]
                    refine wpAnyH_take (i := 10) (v := ?_) rfl (by kernel_rfl) (by kernel_rfl) (by kernel_rfl) (fun _ _ _ h => h) (Or.inl ⟨by rfl, ?_⟩) (by assumption) ?_
                    rotate_left
                    · (intro w hSw; (try dsimp only at hSw); go_simp; try with_reducible rfl)
                    try simp only [Act.put, List.setIfInBounds_toArray, List.set_cons_zero, List.set_cons_succ]
                    refine wpAnyH_take (i := 11) (v := ?_) rfl (by kernel_rfl) (by kernel_rfl) (by kernel_rfl) (fun _ _ _ h => h) (Or.inl ⟨by rfl, ?_⟩) (by assumption) ?_
                    rotate_left
                    · (intro w hSw; (try dsimp only at hSw); go_simp; try with_reducible rfl)
                    try simp only [Act.put, List.setIfInBounds_toArray, List.set_cons_zero, List.set_cons_succ]
                    refine wpAnyH_take (i := 12) (v := ?_) rfl (by kernel_rfl) (by kernel_rfl) (by kernel_rfl) (fun _ _ _ h => h) (Or.inl ⟨by rfl, ?_⟩) (by assumption) ?_
                    rotate_left
                    · (intro w hSw; (try dsimp only at hSw); go_simp; try with_reducible rfl)
                    try simp only [Act.put, List.setIfInBounds_toArray, List.set_cons_zero, List.set_cons_succ]
                    refine wpAnyH_take (i := 13) (v := ?_) rfl (by kernel_rfl) (by kernel_rfl) (by kernel_rfl) (fun _ _ _ h => h) (Or.inl ⟨by rfl, ?_⟩) (by assumption) ?_
                    rotate_left
                    · (intro w hSw; (try dsimp only at hSw); go_simp; try with_reducible rfl)
                    try simp only [Act.put, List.setIfInBounds_toArray, List.set_cons_zero, List.set_cons_succ]
                    refine wpAnyH_take (i := 14) (v := ?_) rfl (by kernel_rfl) (by kernel_rfl) (by kernel_rfl) (fun _ _ _ h => h) (Or.inl ⟨by rfl, ?_⟩) (by assumption) ?_
                    rotate_left
                    · (intro w hSw; (try dsimp only at hSw); go_simp; try with_reducible rfl)
                    try simp only [Act.put, List.setIfInBounds_toArray, List.set_cons_zero, List.set_cons_succ]
                    refine wpAnyH_take (i := 15) (v := ?_) rfl (by kernel_rfl) (by kernel_rfl) (by kernel_rfl) (fun _ _ _ h => h) (Or.inl ⟨by rfl, ?_⟩) (by assumption) ?_
                    rotate_left
                    · (intro w hSw; (try dsimp only at hSw); go_simp; try with_reducible rfl)
                    try simp only [Act.put, List.setIfInBounds_toArray, List.set_cons_zero, List.set_cons_succ]
                    refine wpAnyH_ready (rs := [1, 16]) (by kernel_rfl) (by simp) ?_
                    refine AllReadyH.cons rfl (fun K hK => ?_) (AllReadyH.cons rfl (fun K hK => ?_) AllReadyH.nil)
                    focus
                      go_simp
                      refine hK.out _ _ ?_ (fun hHeld => ?_)
                      · first | exact HS8a.1 | exact HS8.1 | exact (HSD.out _ ((Below.refl _ wr).drew)).1
                      clear hK K
                      try simp only [Act.put, List.setIfInBounds_toArray, List.set_cons_zero, List.set_cons_succ]
                      refine wpAnyH_ready (rs := [16]) (by kernel_rfl) (by simp) ?_
                      refine AllReadyH.cons rfl (fun K hK => ?_) AllReadyH.nil
                      go_simp
                      (go_at_call 62; refine (HCN.out _ ((Below.refl _ wr).drew)).mono ?_; rintro e w8 ⟨u8, rfl, hrow8, hown8, hb8⟩; obtain ⟨a8, c8, rfl⟩ := row_formI hrow8; have HR8 := Lib.hid hrow8; have HW8 := Lib.hid hown8; have HB8 := Lib.hid (((Below.refl _ wr).drew).trans hb8); have HS8 := HSD.out w8 HB8.out; have k8 := HS8.2; have hob8 : ob < w8.heap.size := World.block_lt_of_cell? _ _ k8; clear hrow8 hown8 hb8)
                      refine hK.out _ _ ?_ (fun hHeld => ?_)
                      · exact HS8.1
                      clear hK K
                      try simp only [Act.put, List.setIfInBounds_toArray, List.set_cons_zero, List.set_cons_succ]
                      refine wpAnyH_take (i := 17) (v := ?_) rfl (by kernel_rfl) (by kernel_rfl) (by kernel_rfl) (fun _ _ _ h => h) (Or.inl ⟨by rfl, ?_⟩) (by assumption) ?_
                      rotate_left
                      · (intro w hSw; (try dsimp only at hSw); go_simp; try with_reducible rfl)
                      try simp only [Act.put, List.setIfInBounds_toArray, List.set_cons_zero, List.set_cons_succ]
                      have HS8a := HSD.out _ (HB8.out.alloc HB8.out.size (.cells #[.bool false, .slice a8 cl c8] 52))
                      refine wpAnyH_ready (rs := [18]) (by kernel_rfl) (by simp) ?_
                      refine AllReadyH.cons rfl (fun K hK => ?_) AllReadyH.nil
                      go_simp
                      skip
                      refine hK.out _ _ ?_ (fun hHeld => ?_)
                      · (try dsimp only) <;> exact HS8a.1
                      clear hK K
                      try simp only [Act.put, List.setIfInBounds_toArray, List.set_cons_zero, List.set_cons_succ]
                    rotate_left
                    focus
                      go_simp
                      (go_at_call 62; refine (HCN.out _ ((Below.refl _ wr).drew)).mono ?_; rintro e w8 ⟨u8, rfl, hrow8, hown8, hb8⟩; obtain ⟨a8, c8, rfl⟩ := row_formI hrow8; have HR8 := Lib.hid hrow8; have HW8 := Lib.hid hown8; have HB8 := Lib.hid (((Below.refl _ wr).drew).trans hb8); have HS8 := HSD.out w8 HB8.out; have k8 := HS8.2; have hob8 : ob < w8.heap.size := World.block_lt_of_cell? _ _ k8; clear hrow8 hown8 hb8)
                      refine hK.out _ _ ?_ (fun hHeld => ?_)
                      · exact HS8.1
                      clear hK K
                      try simp only [Act.put, List.setIfInBounds_toArray, List.set_cons_zero, List.set_cons_succ]
                      refine wpAnyH_take (i := 17) (v := ?_) rfl (by kernel_rfl) (by kernel_rfl) (by kernel_rfl) (fun _ _ _ h => h) (Or.inl ⟨by rfl, ?_⟩) (by assumption) ?_
                      rotate_left
                      · (intro w hSw; (try dsimp only at hSw); go_simp; try with_reducible rfl)
                      try simp only [Act.put, List.setIfInBounds_toArray, List.set_cons_zero, List.set_cons_succ]
                      have HS8a := HSD.out _ (HB8.out.alloc HB8.out.size (.cells #[.bool false, .slice a8 cl c8] 52))
                      refine wpAnyH_ready (rs := [1, 18]) (by kernel_rfl) (by simp) ?_
                      refine AllReadyH.cons rfl (fun K hK => ?_) (AllReadyH.cons rfl (fun K hK => ?_) AllReadyH.nil)
                      focus
                        go_simp
                        refine hK.out _ _ ?_ (fun hHeld => ?_)
                        · first | exact HS8a.1 | exact HS8.1 | exact (HSD.out _ ((Below.refl _ wr).drew)).1
                        clear hK K
                        try simp only [Act.put, List.setIfInBounds_toArray, List.set_cons_zero, List.set_cons_succ]
                        refine wpAnyH_ready (rs := [18]) (by kernel_rfl) (by simp) ?_
                        refine AllReadyH.cons rfl (fun K hK => ?_) AllReadyH.nil
                        go_simp
                        skip
                        refine hK.out _ _ ?_ (fun hHeld => ?_)
                        · (try dsimp only) <;> exact HS8a.1
                        clear hK K
                        try simp only [Act.put, List.setIfInBounds_toArray, List.set_cons_zero, List.set_cons_succ]
                      rotate_left
                      focus
                        go_simp
                        refine hK.out _ _ ?_ (fun hHeld => ?_)
                        · first | exact HS8a.1 | exact HS8.1 | exact (HSD.out _ ((Below.refl _ wr).drew)).1
                        clear hK K
                        try simp only [Act.put, List.setIfInBounds_toArray, List.set_cons_zero, List.set_cons_succ]
                        refine wpAnyH_ready (rs := [1]) (by kernel_rfl) (by simp) ?_
                        refine AllReadyH.cons rfl (fun K hK => ?_) AllReadyH.nil
                        go_simp
                        skip
                        refine hK.out _ _ ?_ (fun hHeld => ?_)
                        · (try dsimp only) <;> exact HS8a.1
                        clear hK K
                        try simp only [Act.put, List.setIfInBounds_toArray, List.set_cons_zero, List.set_cons_succ]
                      all_goals skip
                    all_goals
                      refine wpAnyH_ready (rs := [19]) (by kernel_rfl) (by simp) ?_
                      refine AllReadyH.cons rfl (fun K hK => ?_) AllReadyH.nil
                      refine step_app rfl (.tmp 73) (.tmp 90) _ rfl 52 (.agg #[.bool false, .slice none 0 0]) 2 32 Try.underlying45 infoST rfl (by decide) sv cs.length (stCells vs) rfl ?ho w8.heap.size 0 1 1 [.bool false, .slice a8 cl c8] rfl rfl ?hn ?hs ?c1 ?c2 ?_
                      case ho => exact ((HCS.out ▸ HOX.out.below HB8.out : OutS w6 w8 ob uv sv vs (usedU m M k) cs)).s.alloc _
                      case hn => exact cellsNew w8 #[.bool false, .slice a8 cl c8] 52
                      case hs => (intro u hu; simp at hu; rcases hu with rfl | rfl <;> rfl)
                      case c1 => have := HKL.out; unfold maxLen; omega
                      case c2 => have := HKL.out; omega
                      intro v9 wB hpF
                      have hO8 : OutS w6 w8 ob uv sv vs (usedU m M k) cs := by rw [HCS.out]; exact HOX.out.below HB8.out
                      have hszw : w6.heap.size ≤ wr.heap.size := HOX.out.ch.size
                      have hu8 : Ints w8 (.slice a8 cl c8) (stC xs i9) := by
                        have h1 := HR8.out
                        rw [HCLE.out] at h1 ⊢
                        exact h1.ints
                      obtain ⟨gv, cv, hv9, -, -, -⟩ := hpF.1.some_ (by omega)
                      obtain ⟨hB9, hO9⟩ := hO8.pushS hu8 (fun g hg => by
                        have h1 := HW8.out g hg
                        have h1 : wr.heap.size ≤ g := h1
                        refine ⟨fun e => ?_, HR8.out.lt g hg⟩
                        rcases e with e | e | e
                        · omega
                        · have := HOX.out.u.lt g e; omega
                        · have := HOX.out.s.lt g e; omega) hpF
                      have hc9 : Chg (fun i => i = ob) w6 wB := (hO8.ch.alloc _).trans hpF.2.1 (fun i hi => .inr (hO8.o3 i hi))
                      have hs9 := HSC.out wB hc9
                      have hs10 := HSC.out _ hO9.ch
                      have kB : wB.cell? ⟨ob, 1, none⟩ = some sv := hB9.cell 1
                      have fB : wB.frozen? ⟨ob, 1, none⟩ = false := hB9.frozen 1
                      have HO9 : Hid (OutS w6 (wB.setCell ⟨ob, 1, none⟩ v9) ob uv v9 (vs ++ [.slice a8 cl c8]) (usedU m M (k + 1)) ((keptU m M (k + 1)).map fun i => L.getD i [])) := Lib.hid (by
                        rw [HNX.out.1, HNX.out.2, List.map_append, ← HCS.out]
                        show OutS _ _ _ _ _ _ _ (cs ++ [L.getD k []])
                        rw [HLK.out]
                        exact hO9)
                      clear hpF hB9 hO9 hO8 hu8 hc9 k8 HS8 HS8a
                      subst hv9
                      refine hK.out _ _ ?_ (fun hHeld => ?_)
                      · exact hs9
                      clear hK K
                      try simp only [Act.put, List.setIfInBounds_toArray, List.set_cons_zero, List.set_cons_succ]
                      refine wpAnyH_take (i := 20) (v := ?_) rfl (by kernel_rfl) (by kernel_rfl) (by kernel_rfl) (fun _ _ _ h => h) (Or.inl ⟨by rfl, ?_⟩) (by assumption) ?_
                      rotate_left
                      · (intro w hSw; (try dsimp only at hSw); go_simp; try with_reducible rfl)
                      try simp only [Act.put, List.setIfInBounds_toArray, List.set_cons_zero, List.set_cons_succ]
                      refine wpAnyH_ready (rs := [21]) (by kernel_rfl) (by simp) ?_
                      refine AllReadyH.cons rfl (fun K hK => ?_) AllReadyH.nil
                      go_simp
                      skip
                      refine hK.out _ _ ?_ (fun hHeld => ?_)
                      · (try dsimp only) <;> exact hs10
                      clear hK K
                      try simp only [Act.put, List.setIfInBounds_toArray, List.set_cons_zero, List.set_cons_succ]
                      refine wpAnyH_done (by kernel_rfl) ?_ _
                      clear hs9 hs10 kB fB kd
                      go_wp2
                      go_roundw
                      case rel => exact ⟨k + 1, _, _, _, by omega, by go_num, HO9.out⟩
                      case measure => simp [intOf]; omega
              · have hkN : k = N := by omega
                have hbw := HBW6.out wr hOS.ch
                have hBR : Blk wr rs 60 #[(Value.slice none 0 0), (Value.slice none 0 0), .int .i64 0] := HBS.out.below hbw HBS.out.lt
                have o0 : wr.cell? ⟨ob, 0, none⟩ = some uv := hOS.b.cell 0
                have o1 : wr.cell? ⟨ob, 1, none⟩ = some sv := hOS.b.cell 1
                have o2 : wr.cell? ⟨ob, 2, none⟩ = some (.int .i64 (-1)) := hOS.b.cell 2
                have k0 : wr.cell? ⟨rs, 0, none⟩ = some (Value.slice none 0 0) := hBR.cell 0
                have k1 : wr.cell? ⟨rs, 1, none⟩ = some (Value.slice none 0 0) := hBR.cell 1
                have k2 : wr.cell? ⟨rs, 2, none⟩ = some (.int .i64 0) := hBR.cell 2
                have f0 : wr.frozen? ⟨rs, 0, none⟩ = false := hBR.frozen 0
                have f1 : wr.frozen? ⟨rs, 1, none⟩ = false := hBR.frozen 1
                have f2 : wr.frozen? ⟨rs, 2, none⟩ = false := hBR.frozen 2
                have HBR := Lib.hid hBR
                have HBX := Lib.hid (HBW.out.trans (hbw.mono HBW.out.size))
                obtain ⟨un, uc2, hue⟩ := hOS.formU
                obtain ⟨sn, sc2, hse⟩ := hOS.formS
                generalize (usedU m M k).length = ul at hue
                generalize ((keptU m M k).map fun i => L.getD i []).length = sl at hse
                subst hue hse
                have HKN := Lib.hid hkN
                clear hOS hbw hBR hkN
                go_wp2
                try rw [Exit.noGoto_ret]
                obtain ⟨WF, hWF⟩ : ∃ WF, WF = ((wr.setCell ⟨rs, 0, none⟩ (.slice un ul uc2)).setCell ⟨rs, 1, none⟩ (.slice sn sl sc2)).setCell ⟨rs, 2, none⟩ (.int .i64 (-1)) := ⟨_, rfl⟩
                have hBF : Blk WF rs 60 #[.slice un ul uc2, .slice sn sl sc2, .int .i64 (-1)] := by rw [hWF]; exact res3 HBR.out
                have hLF : Below w.heap.size w WF := by rw [hWF]; exact res3_below HBX.out HRS.out
                have hCF : Chg (fun g => g = rs) wr WF := by
                  rw [hWF]
                  exact (((Chg.refl (fun g => g = rs) wr).setCell (p := ⟨rs, 0, none⟩) (.inl rfl) _).setCell (p := ⟨rs, 1, none⟩) (.inl rfl) _).setCell (p := ⟨rs, 2, none⟩) (.inl rfl) _
                have z0 : WF.cell? ⟨rs, 0, none⟩ = some (.slice un ul uc2) := hBF.cell 0
                have z1 : WF.cell? ⟨rs, 1, none⟩ = some (.slice sn sl sc2) := hBF.cell 1
                have z2 : WF.cell? ⟨rs, 2, none⟩ = some (.int .i64 (-1)) := hBF.cell 2
                rw [← hWF]
                have HFIN := Lib.hid (HOX.out.fin (rs := rs) (by have := HBS.out.lt; have := HB6.out.size; omega) hCF)
                refine bodyPost_ret (v := .agg #[.slice un ul uc2, .slice sn sl sc2, .int .i64 (-1)]) (by simp [results, Try.results31, go_sem, z0, z1, z2]) rfl ⟨_, _, by rw [← HA.out, HF.out], hLF, fun _ => ?_, fun hne => absurd (by rw [← HA.out, HF.out]) hne⟩
                have hR : R = whyF s9.S goal := HHY.out.eqF
                have eM : M = needP og xs goal := by rw [HME.out, hR, HS9.out]; rfl
                have eN : N = (trEnd og xs).ws.length := by rw [HNE.out, HS9.out]
                have eU : usedU m M k = usedP og xs goal := by rw [HKN.out, HM.out, eM, eN]; rfl
                have eK : ((keptU m M k).map fun i => L.getD i []).map (fun c => ((false, c) : Stp)) = keptP og xs goal := by
                  rw [HKN.out, HM.out, eM, eN, HL9.out.2.2.2.1, HS9.out, List.map_map]; rfl
                obtain ⟨f1, f2⟩ := HFIN.out
                rw [eU] at f1
                rw [eK] at f2
                refine ⟨f1, f2, ⟨L, G, by rw [← HS9.out]; exact HTI9.out⟩, ?_⟩
                rw [← HS9.out, ← hR]
                exact HHY.out
end Go.Proofs.Ytknpfopepedmmaa
