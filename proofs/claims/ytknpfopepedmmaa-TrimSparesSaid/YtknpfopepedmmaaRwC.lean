/-
  The law RupPlays.
-/
import Derived.Test.YtknpfopepedmmaaRwB
import Derived.Test.YtknpfopepedmmaaFrameU
import Derived.Test.YtknpfopepedmmaaRvW
namespace Go.Proofs.Ytknpfopepedmmaa
open Go Go.ChangeShapes Go.WideShapes Go.ChangeAt Go.RowKit Go.Maps
set_option linter.unusedVariables false
set_option linter.unusedSimpArgs false
theorem KP.chgX {w w' : World} {r : Nat} {S : RS} {vl vt : Value} {bt bo bm nt no nm : Nat} {us : List Value} {ho : (Int → Option (Option (Nat × Nat × Nat)))} {X : Nat → Prop} (h : KP w r S vl vt bt bo bm nt no nm us ho) (hc : Chg X w w') (hK : ∀ g, KS r bt bo bm vl vt ho g → ¬ X g) (hU : ∀ u ∈ us, ∀ g, u.ownBlock = some g → ¬ X g) : KP w' r S vl vt bt bo bm nt no nm us ho :=
  ⟨h.b.chg hc (hK r (.inl rfl)), h.l.chg hc (fun g hg => hK g (.inr (.inr (.inr (.inr (.inl hg)))))),
   ⟨h.c.1, fun j hj => ⟨(h.c.2 j hj).1.chg hc (fun g hg => hU _ (by
      have hj2 : j < us.length := by rw [h.c.1]; exact hj
      rw [List.getD_eq_getElem?_getD, List.getElem?_eq_getElem hj2]; exact List.getElem_mem hj2) g hg), fun g hg => ⟨((h.c.2 j hj).2 g hg).1, Nat.lt_of_lt_of_le ((h.c.2 j hj).2 g hg).2 hc.size⟩⟩⟩,
   h.t.chg hc (hK bt (.inr (.inl rfl))), h.o.chg hc (hK bo (.inr (.inr (.inl rfl)))), fun x => (h.of x).chg hc (fun g hg => hK g (.inr (.inr (.inr (.inr (.inr (.inr ⟨x, hg⟩))))))), h.m.chg hc (hK bm (.inr (.inr (.inr (.inl rfl))))), h.tr.chg hc (fun g hg => hK g (.inr (.inr (.inr (.inr (.inr (.inl hg))))))), h.d, h.sl, h.st, h.sh, h.sx⟩
theorem OwnX.chgX {w wr w2 : World} {r : Nat} {S : RS} {X : Nat → Prop} (h : OwnX w wr r S X) (hc : Chg X wr w2) (hb : Below w.heap.size w w2) : OwnX w w2 r S X := by
  obtain ⟨⟨vl, vt, bt, bo, bm, nt, no, nm, us, ho, h1, h2, h3, h4, h5⟩, hb0, hs⟩ := h
  exact ⟨⟨vl, vt, bt, bo, bm, nt, no, nm, us, ho, h1.chgX hc (fun g hg => (h2 g hg).2) (fun u hu g hg => (h5 u hu g hg).2), h2, h3, h4, h5⟩, hb, hs⟩
/-- A checker beside the clauses that came, and which are gone. -/
structure PlX (w wr : World) (r : Nat) (S : RS) (lv gv : Value) (l : List (List Int)) (gone : List Bool) : Prop where
  x : OwnX w wr r S (fun g => lv.ownBlock = some g ∨ gv.ownBlock = some g)
  l : OwnT w wr lv l
  g : Row wr 4 1 gv gone.length (gone.map Value.bool)
  s : ∀ g, gv.ownBlock = some g → w.heap.size ≤ g ∧ lv.ownBlock ≠ some g
theorem OwnT.own {w0 w : World} {v : Value} {xss : List (List Int)} (h : OwnT w0 w v xss) : ∀ g, v.ownBlock = some g → w0.heap.size ≤ g ∧ g < w.heap.size := fun g hg => by
  obtain ⟨us, h1, h2, -, -⟩ := h
  exact ⟨h2 g hg, h1.lt g hg⟩
theorem OwnT.chg {w0 w w2 : World} {v : Value} {xss : List (List Int)} {X : Nat → Prop} (h : OwnT w0 w v xss) (hc : Chg X w w2) (hn : ∀ g, v.ownBlock = some g → ¬ X g) (hb : Below w0.heap.size w0 w2) : OwnT w0 w2 v xss := by
  obtain ⟨us, h1, h2, h3, -⟩ := h
  exact ⟨us, h1.chg hc hn, h2, h3, hb⟩
theorem Row.boolsR {w : World} {v : Value} {ms : List Bool} (h : Row w 4 1 v ms.length (ms.map Value.bool)) : Bools w v ms := by
  rcases h.form with ⟨rfl, h0, -⟩ | ⟨g, cap, rfl, h1, h2, -, hc⟩
  · obtain rfl := List.eq_nil_of_length_eq_zero h0
    exact ⟨none, 0, rfl, by simp, by simp, .inl rfl⟩
  · refine ⟨_, cap, rfl, h1, h2, .inr ⟨g, 0, rfl, fun j hj => ?_⟩⟩
    rw [Nat.zero_add, (hc j (by simpa using hj)).1]
    simp [List.getD, hj]
theorem infoBT : (Try.prog.info? 4).map (fun i => (i.zero, i.size, i.bytes)) = some (some (.bool false), 1, 1) := by kernel_rfl
section
variable {w wr : World} {r : Nat} {S : RS} {lv gv : Value} {l : List (List Int)} {gone : List Bool}
theorem PlX.lt (h : PlX w wr r S lv gv l gone) : ∀ g, (lv.ownBlock = some g ∨ gv.ownBlock = some g) → g < wr.heap.size := fun g hg => by
  rcases hg with e | e
  · exact (h.l.own g e).2
  · exact h.g.lt g e
theorem PlX.below (h : PlX w wr r S lv gv l gone) {w2 : World} (hb : Below wr.heap.size wr w2) : PlX w w2 r S lv gv l gone :=
  ⟨h.x.below hb, h.l.below hb, h.g.chg (S := fun _ => False) (Chg.of_below hb) (fun _ _ e => e), h.s⟩
/-- Behind a call of the checker's. -/
theorem PlX.call (h : PlX w wr r S lv gv l gone) {w2 : World} {S2 : RS} (hx : OwnX w w2 r S2 (fun g => lv.ownBlock = some g ∨ gv.ownBlock = some g)) (hc : Chg (fun g => w.heap.size ≤ g ∧ ¬ (lv.ownBlock = some g ∨ gv.ownBlock = some g)) wr w2) : PlX w w2 r S2 lv gv l gone :=
  ⟨hx, h.l.chg hc (fun g hg e => e.2 (.inl hg)) hx.b, h.g.chg hc (fun g hg e => e.2 (.inr hg)), h.s⟩
theorem PlX.pushL (h : PlX w wr r S lv gv l gone) {us : List Value} (xr : Row wr 28 1 lv l.length us) (xe : EltT w us l) {u v3 : Value} {c : List Int} (hu : Ints w u c) {w3 : World} (hp : AppPost (wr.alloc (.cells #[u] 28)) 28 1 lv (l.length + 1) (us ++ [u]) v3 w3) : PlX w w3 r S v3 gv (l ++ [c]) gone := by
  obtain ⟨p1, p2, p3⟩ := hp
  have hb1 := below_new1 wr (.cells #[u] 28)
  have hs1 : wr.heap.size ≤ (wr.alloc (.cells #[u] 28)).heap.size := hb1.size
  have hbw : Below w.heap.size w w3 := (h.x.b.trans (hb1.mono h.x.b.size)).trans (p2.below (by have := h.x.b.size; omega) (fun i hi => (h.l.own i hi).1))
  have own3 : ∀ g, v3.ownBlock = some g → lv.ownBlock = some g ∨ wr.heap.size ≤ g := fun g hg => by
    rcases p3 with e | e
    · exact .inl (by rw [← e]; exact hg)
    · rw [e] at hg; injection hg with hg; exact .inr (by omega)
  have x1 : OwnX w wr r S (fun g => (lv.ownBlock = some g ∨ gv.ownBlock = some g) ∨ v3.ownBlock = some g) := h.x.fresh (fun g hg => by
    rcases hg with e | e
    · exact .inl e
    · rcases own3 g e with e | e
      · exact .inl (.inl e)
      · exact .inr e)
  refine ⟨((x1.below hb1).chgX (p2.mono (fun g hg => .inl (.inl hg))) hbw).weak (fun g hg => ?_), ?_, (h.g.alloc _).chg p2 (fun g hg e => (h.s g hg).2 e), fun g hg => ⟨(h.s g hg).1, fun e => ?_⟩⟩
  · rcases hg with e | e
    · exact .inr e
    · exact .inl (.inr e)
  · have he2 : EltT w (us ++ [u]) (l ++ [c]) := xe.app (EltT.one hu)
    refine ⟨us ++ [u], by rw [List.length_append]; exact p1, fun g hg => ?_, he2, hbw⟩
    rcases own3 g hg with e | e
    · exact (h.l.own g e).1
    · exact Nat.le_trans h.x.b.size e
  · rcases own3 g e with e | e
    · exact (h.s g hg).2 e
    · have := h.g.lt g hg; omega
theorem PlX.pushG (h : PlX w wr r S lv gv l gone) {b : Bool} {v3 : Value} {w3 : World} (hp : AppPost (wr.alloc (.cells #[.bool b] 4)) 4 1 gv (gone.length + 1) (gone.map Value.bool ++ [.bool b]) v3 w3) : PlX w w3 r S lv v3 l (gone ++ [b]) := by
  obtain ⟨p1, p2, p3⟩ := hp
  have hb1 := below_new1 wr (.cells #[.bool b] 4)
  have hs1 : wr.heap.size ≤ (wr.alloc (.cells #[.bool b] 4)).heap.size := hb1.size
  have hbw : Below w.heap.size w w3 := (h.x.b.trans (hb1.mono h.x.b.size)).trans (p2.below (by have := h.x.b.size; omega) (fun i hi => (h.s i hi).1))
  have own3 : ∀ g, v3.ownBlock = some g → gv.ownBlock = some g ∨ wr.heap.size ≤ g := fun g hg => by
    rcases p3 with e | e
    · exact .inl (by rw [← e]; exact hg)
    · rw [e] at hg; injection hg with hg; exact .inr (by omega)
  have x1 : OwnX w wr r S (fun g => (lv.ownBlock = some g ∨ gv.ownBlock = some g) ∨ v3.ownBlock = some g) := h.x.fresh (fun g hg => by
    rcases hg with e | e
    · exact .inl e
    · rcases own3 g e with e | e
      · exact .inl (.inr e)
      · exact .inr e)
  refine ⟨((x1.below hb1).chgX (p2.mono (fun g hg => .inl (.inr hg))) hbw).weak (fun g hg => ?_), (h.l.below hb1).chg p2 (fun g hg e => (h.s g e).2 hg) hbw, ?_, fun g hg => ?_⟩
  · rcases hg with e | e
    · exact .inl (.inl e)
    · exact .inr e
  · rw [List.length_append, List.map_append]; exact p1
  · rcases own3 g hg with e | e
    · exact h.s g e
    · exact ⟨Nat.le_trans h.x.b.size e, fun e2 => by have := (h.l.own g e2).2; omega⟩
theorem PlX.setG {gb cap : Nat} (h : PlX w wr r S lv (.slice (some ⟨gb, 0, none⟩) gone.length cap) l gone) (k : Nat) : PlX w (wr.setCell ⟨gb, k, none⟩ (.bool true)) r S lv (.slice (some ⟨gb, 0, none⟩) gone.length cap) l (gone.set k true) := by
  have hgb := h.s gb rfl
  have hc : Chg (fun g => g = gb) wr (wr.setCell ⟨gb, k, none⟩ (.bool true)) := (Chg.refl (fun g => g = gb) wr).setCell (p := ⟨gb, k, none⟩) (.inl rfl) _
  have hbw : Below w.heap.size w (wr.setCell ⟨gb, k, none⟩ (.bool true)) := h.x.b.trans (hc.below h.x.b.size (fun i hi => by rw [hi]; exact hgb.1))
  refine ⟨h.x.chgX (hc.mono (fun g hg => .inr (by rw [hg]; rfl))) hbw, h.l.chg hc (fun g hg e => hgb.2 (by rw [← e]; exact hg)) hbw, ?_, h.s⟩
  have := h.g.set1 k (.bool true)
  rw [List.length_set, List.map_set]
  exact this
end
/-- The slice v reads as these acts. -/
def ActS (w : World) (v : Value) (xs : List (Int × List Int)) : Prop :=
  ∃ a cap, v = .slice a xs.length cap ∧ xs.length ≤ cap ∧ cap ≤ maxLen ∧ (xs = [] ∨ ∃ b off, a = some ⟨b, off, none⟩ ∧ ∀ j, j < xs.length → w.cell? ⟨b, off + j * 2, none⟩ = some (.int .i64 (xs.getD j (0, [])).1) ∧ ∃ u, w.cell? ⟨b, off + j * 2 + 1, none⟩ = some u ∧ Ints w u (xs.getD j (0, [])).2)
theorem ActS.form {w : World} {v : Value} {xs : List (Int × List Int)} (h : ActS w v xs) : ∃ a cap, v = .slice a xs.length cap ∧ xs.length ≤ cap ∧ cap ≤ maxLen := by
  obtain ⟨a, cap, e, h1, h2, -⟩ := h
  exact ⟨a, cap, e, h1, h2⟩
theorem ActS.at_ {w : World} {v : Value} {xs : List (Int × List Int)} (h : ActS w v xs) {j : Nat} (hj : j < xs.length) : ∃ b off cap u, v = .slice (some ⟨b, off, none⟩) xs.length cap ∧ w.cell? ⟨b, off + j * 2, none⟩ = some (.int .i64 (xs.getD j (0, [])).1) ∧ w.cell? ⟨b, off + j * 2 + 1, none⟩ = some u ∧ Ints w u (xs.getD j (0, [])).2 := by
  obtain ⟨a, cap, rfl, -, -, h3⟩ := h
  obtain ⟨b, off, rfl, hc⟩ := h3.resolve_left (fun e => by rw [e] at hj; simp at hj)
  obtain ⟨h0, u, hu, hi⟩ := hc j hj
  exact ⟨b, off, cap, u, rfl, h0, hu, hi⟩
def PlR (w : World) (r : Nat) (lv gv : Value) (k : Nat) (wr : World) : Prop := ∃ S l gone, PlX w wr r S lv gv l gone ∧ Mir S l gone ∧ l.length ≤ k
theorem seekI_mir {S : RS} {l : List (List Int)} {gone : List Bool} (h : Mir S l gone) (c : List Int) : seekI S (normC c) = seekZ l gone c ∧ (S.seek (normC c)).isSome = decide (0 ≤ seekZ l gone c) := by
  unfold seekI seekZ
  rw [h.seek c]
  cases seekL l gone c with
  | none => exact ⟨rfl, rfl⟩
  | some k => exact ⟨rfl, (decide_eq_true (by show (0 : Int) ≤ (k : Int); omega)).symm⟩
theorem pick_core {S : RS} {l : List (List Int)} {gone : List Bool} (h : Mir S l gone) {c : List Int} {R : List Nat} (hy : WhyR S c true R) : ¬ OpenN (pick_ l R) c := fun ⟨T, t1, t2, t3⟩ => by
  refine hy.core rfl T t1 t2 fun j hj => ?_
  have hjl : j < l.length := by rw [← h.size]; exact (hy.on j hj).1
  rw [h.c hjl]
  exact (closed_norm (h.li _ (getD_in hjl))).2 (t3 _ (List.mem_map.2 ⟨j, hj, rfl⟩))
theorem pick_lits {l : List (List Int)} {R : List Nat} (h : ∀ c ∈ l, Lit30s c) (hR : ∀ j ∈ R, j < l.length) : ∀ d ∈ pick_ l R, Lit30s d := fun d hd => by
  obtain ⟨j, hj, rfl⟩ := List.mem_map.1 hd
  exact h _ (getD_in (hR j hj))
theorem there_lits {l : List (List Int)} {gone : List Bool} (h : ∀ c ∈ l, Lit30s c) : ∀ d ∈ thereL l gone, Lit30s d := fun d hd => by
  obtain ⟨i, h1, -, -, rfl⟩ := mem_thereL.1 hd
  exact h _ (getD_in h1)
theorem there_len : ∀ (l : List (List Int)) (gone : List Bool), (thereL l gone).length ≤ l.length
  | [], gs => by unfold thereL; simp
  | c :: l, [] => by unfold thereL; simp
  | c :: l, g :: gs => by
    unfold thereL
    have := there_len l gs
    split <;> simp <;> omega
set_option maxHeartbeats 16000000 in
set_option maxRecDepth 100000 in
theorem claw_rplays {w : World} {s : Value} {xs : List (Int × List Int)} (hs : ActS w s xs) :
    Calls Try.prog 3 #[s] w fun e w' => e = .returned (.bool true) ∧ Below w.heap.size w w' := by
  obtain ⟨sa, sc, hse, hs1, hs2⟩ := hs.form
  obtain ⟨n, hn⟩ : ∃ n, n = xs.length := ⟨_, rfl⟩
  rw [← hn] at hse hs1
  subst hse
  have HS := Lib.hid hs
  have HN := Lib.hid hn
  clear hs hn hs1 hs2
  by_cases h60 : (60 : Int) < (n : Int)
  · have HA := Lib.hid (alive25 w)
    go_enter Try.func3, Try.ntmps3
    go_wp2_with fail
    refine HA.out.mono ?_
    rintro e w2 ⟨rfl, hb2⟩
    have H2 := Lib.hid hb2
    clear hb2
    go_wp2
    go_ret
    exact ⟨rfl, H2.out⟩
  · have HNW := Lib.hid (ownX_new w)
    go_enter Try.func3, Try.ntmps3
    go_wp2_with fail
    refine HNW.out.mono ?_
    rintro e w1 ⟨r, rfl, h1⟩
    have H0 : Hid (PlR w r (.slice none 0 0) (.slice none 0 0) 0 w1) := Lib.hid ⟨RS0, [], [], ⟨h1.fresh (fun g hg => by simp [Value.ownBlock] at hg), OwnT.nil w1 h1.b, World.ownsRow_nil _ _ _ _, fun g hg => by simp [Value.ownBlock] at hg⟩, Mir.zero, Nat.le_refl _⟩
    clear h1 HNW
    go_wp2
    go_loopw [4, 5, 6] (fun lv gv i wr => ∃ k : Nat, k ≤ n ∧ i = .int .i64 (k : Nat) ∧ PlR w r lv gv k wr) (fun _ _ i _ => n - (intOf i).toNat)
    case atStart => exact ⟨0, Nat.zero_le _, rfl, H0.out⟩
    case round =>
      obtain ⟨k, hk, rfl, S, l, gone, hP, hM, hl⟩ := hrel
      have HP := Lib.hid hP
      have HM := Lib.hid hM
      have HL := Lib.hid hl
      by_cases hlt : (k : Int) < (n : Int)
      · have hkn : k < xs.length := by have := HN.out; omega
        obtain ⟨b, off, cap2, u, hv, q0, q1, hu⟩ := HS.out.at_ hkn
        injection hv with e1 e2 e3
        subst e1
        have q0 := cellB q0 hP.x.b
        have q1 := cellB q1 hP.x.b
        obtain ⟨kd, hkd⟩ : ∃ kd, kd = (xs.getD k (0, [])).1 := ⟨_, rfl⟩
        obtain ⟨c, hc⟩ : ∃ c, c = (xs.getD k (0, [])).2 := ⟨_, rfl⟩
        rw [← hkd] at q0
        rw [← hc] at hu
        obtain ⟨wa, hwa⟩ : ∃ wa, wa = wr.alloc (.cells #[u] 28) := ⟨_, rfl⟩
        have hba : Below wr.heap.size wr wa := by rw [hwa]; exact (Below.refl _ wr).alloc (Nat.le_refl _) _
        have hF := r25_Fine (w := wa) (v := .slice (some ⟨wr.heap.size, 0, none⟩) 1 1) (xss := [c]) (by rw [hwa]; exact intsS_lit1 (hu.below hP.x.b))
        rw [fine1] at hF
        obtain ⟨fc, hfc⟩ : ∃ fc, fc = okC c := ⟨_, rfl⟩
        rw [← hfc] at hF
        have HF := Lib.hid hF
        have HFC := Lib.hid hfc
        have HU := Lib.hid hu
        have q0a := cellB q0 hba
        have hPa := hP.below hba
        have HPa := Lib.hid hPa
        obtain ⟨ua, uc, hue, -, -⟩ := hu.form2
        generalize c.length = cn at hue
        subst hue
        obtain ⟨na, nc, nus, hne, -, -, -⟩ := hP.l.t
        obtain ⟨ln, hln⟩ : ∃ ln, ln = l.length := ⟨_, rfl⟩
        have HLN := Lib.hid hln
        rw [← hln] at hne
        obtain ⟨ga, gc, hge, -⟩ := hP.g.boolsR
        rw [hM.len, ← hln] at hge
        subst hne hge
        clear hP hM hl e2 e3 hkd hc hu hF hfc hba hPa hln hkn
        go_wp2_with fail
        rw [← hwa]
        refine HF.out.mono ?_
        rintro e w2 ⟨rfl, rfl⟩
        clear hwa q0 q1
        cases fc with
        | false =>
          have HA := Lib.hid (alive25 w2)
          go_wp2_with fail
          refine HA.out.mono ?_
          rintro e w3 ⟨rfl, hb3⟩
          have H3 := Lib.hid (HPa.out.x.b.trans (hb3.mono HPa.out.x.b.size))
          clear hb3
          go_wp2
          try rw [Exit.noGoto_ret]
          go_ret
          exact ⟨rfl, H3.out⟩
        | true =>
          obtain ⟨l30, clen⟩ := okC_lits HFC.out.symm
          have HOK : Hid (Lit30s c ∧ c.length ≤ 1000000) := Lib.hid ⟨l30, by omega⟩
          have hS60 : S.cl.length ≤ 60 := by rw [HM.out.size]; have := HL.out; omega
          have HS60 := Lib.hid hS60
          clear l30 clen hS60
          by_cases hk0 : kd = 0
          · subst hk0
            have HAD := HPa.out.x.add HPa.out.lt (by have := HS60.out; omega) (HU.out.below HPa.out.x.b) HOK.out.1 HOK.out.2
            rw [HM.out.size, ← HLN.out] at HAD
            have HAD := Lib.hid HAD
            go_wp2_with fail
            refine HAD.out.mono ?_
            rintro e w3 ⟨rfl, h3, hc3⟩
            have HP3 := Lib.hid (HPa.out.call h3 hc3)
            clear h3 hc3
            have HM3 : Hid (Mir (S.add (normC c)) (l ++ [c]) (gone ++ [false])) := Lib.hid (HM.out.add HPa.out.x.set HOK.out.1)
            have HL3 : Hid ((l ++ [c]).length ≤ k + 1) := Lib.hid (by rw [List.length_append, List.length_singleton]; have := HL.out; omega)
            have HG3 : Hid (gone.length ≤ 60) := Lib.hid (by rw [HM.out.len]; have := HL.out; omega)
            have hln9 : ln ≤ 60 := by have := HLN.out; have := HL.out; omega
            go_wp2_with (first
              | (at_builtin; obtain ⟨xus, xr, xo, xe, xb⟩ := HP3.out.l; refine wpList_appS rfl _ _ _ rfl 28 (.slice none 0 0) 1 24 Try.underlying26 infoL rfl (by decide) (.slice na ln nc) l.length xus rfl (xr.alloc _) (some ⟨w3.heap.size, 0, none⟩) 1 1 [.slice ua cn uc] rfl (Src.one (heap_new1 _ _)) (EltT.one HU.out).cell (by have := HL.out; unfold maxLen; omega) (by have := HL.out; omega) ?_; intro v5 w5 h5; have H5 := Lib.hid (HP3.out.pushL xr xe HU.out h5); clear h5 xr xo xe xb)
              | (at_builtin; refine wpList_appS rfl _ _ _ rfl 4 (.bool false) 1 1 Try.underlying27 infoBT rfl (by decide) (.slice ga ln gc) gone.length (gone.map Value.bool) rfl (H5.out.g.alloc _) (some ⟨w5.heap.size, 0, none⟩) 1 1 [.bool false] rfl (Src.one (heap_new1 _ _)) (fun u9 hu9 => by rw [List.mem_singleton.1 hu9]; rfl) (by have := HG3.out; unfold maxLen; omega) (by have := HG3.out; omega) ?_; intro v6 w6 h6; have H6 := Lib.hid (H5.out.pushG h6); clear h6))
            have HLENa := Lib.hid (rupLen_ H6.out.x.at_)
            have HTHa := Lib.hid (law_there H6.out.l.t H6.out.g.boolsR HM3.out.len (by have := HL3.out; omega))
            go_wp2_with fail
            refine HLENa.out.mono ?_
            rintro e wla ⟨rfl, rfl⟩
            go_wp2_with fail
            refine HTHa.out.mono ?_
            rintro e wta ⟨vta, rfl, hta, hbta⟩
            have HRa : Hid (PlR w r _ _ (k + 1) wta) := Lib.hid ⟨_, _, _, H6.out.below hbta, HM3.out, HL3.out⟩
            have hlivea := HM3.out.live
            obtain ⟨taa, tca, tusa, htea, -, -, -⟩ := hta.t
            rw [← hlivea] at htea
            generalize (RS.live _).length = za at htea ⊢
            subst htea
            clear hta hbta hlivea
            go_wp2
            go_roundw
            case rel => exact ⟨k + 1, by omega, by go_num, HRa.out⟩
            case measure => simp [intOf]; omega
          · have hk0b : (kd == 0) = false := by rw [beq_eq_false_iff_ne]; exact hk0
            by_cases hk1 : kd = 1
            · subst hk1
              have HRM := Lib.hid (HPa.out.x.rem HPa.out.lt (by have := HS60.out; omega) (HU.out.below HPa.out.x.b) HOK.out.1 HOK.out.2)
              clear hk0 hk0b
              obtain ⟨z, hz⟩ : ∃ z, z = seekZ l gone c := ⟨_, rfl⟩
              obtain ⟨sz1, sz2⟩ := seekI_mir HM.out c
              rw [sz1, sz2, ← hz] at HRM
              have HZ := Lib.hid hz
              clear sz1 sz2 hz
              go_wp2_with fail
              refine HRM.out.mono ?_
              rintro e w3 ⟨rfl, h3, hc3⟩
              have HP3 := Lib.hid (HPa.out.call h3 hc3)
              have hfi := r25_Find HP3.out.l.t.s HP3.out.g.boolsR HM.out.len (HU.out.below HP3.out.x.b)
              rw [← HZ.out] at hfi
              have HFI := Lib.hid hfi
              clear h3 hc3 hfi
              have hzz : (z != z) = false := by simp
              go_wp2_with fail
              refine HFI.out.mono ?_
              rintro e w4 ⟨rfl, rfl⟩
              rcases seekL_spec c l gone HM.out.len with ⟨hs0, -⟩ | ⟨kk, hs0, -, -, -⟩
              · obtain ⟨r1, r2, r3⟩ := HM.out.rem_none hs0
                have hz1 : z = -1 := by rw [HZ.out]; unfold seekZ; rw [hs0]
                have HM3 : Hid (Mir (S.rem (normC c)) l gone) := Lib.hid (by rw [r3]; exact HM.out)
                have HL3 : Hid (l.length ≤ k + 1) := Lib.hid (by have := HL.out; omega)
                subst hz1
                clear r1 r2 r3 hs0
                have HLENb := Lib.hid (rupLen_ HP3.out.x.at_)
                have HTHb := Lib.hid (law_there HP3.out.l.t HP3.out.g.boolsR HM3.out.len (by have := HL3.out; omega))
                go_wp2_with fail
                refine HLENb.out.mono ?_
                rintro e wlb ⟨rfl, rfl⟩
                go_wp2_with fail
                refine HTHb.out.mono ?_
                rintro e wtb ⟨vtb, rfl, htb, hbtb⟩
                have HRb : Hid (PlR w r _ _ (k + 1) wtb) := Lib.hid ⟨_, _, _, HP3.out.below hbtb, HM3.out, HL3.out⟩
                have hliveb := HM3.out.live
                obtain ⟨tab, tcb, tusb, hteb, -, -, -⟩ := htb.t
                rw [← hliveb] at hteb
                generalize (RS.live _).length = zb at hteb ⊢
                subst hteb
                clear htb hbtb hliveb
                go_wp2
                go_roundw
                case rel => exact ⟨k + 1, by omega, by go_num, HRb.out⟩
                case measure => simp [intOf]; omega
              · obtain ⟨r1, r2, r3, r4⟩ := HM.out.rem_some HPa.out.x.set hs0
                have hz1 : z = (kk : Int) := by rw [HZ.out]; unfold seekZ; rw [hs0]
                have HM3 : Hid (Mir (S.rem (normC c)) l (gone.set kk true)) := Lib.hid r1
                have HL3 : Hid (l.length ≤ k + 1) := Lib.hid (by have := HL.out; omega)
                have hkl : (kk : Int) < (ln : Int) := by have := HLN.out; omega
                obtain ⟨gg, hga, gcell, gfro⟩ : ∃ gg, ga = some ⟨gg, 0, none⟩ ∧ (∃ b9 : Bool, w4.cell? ⟨gg, kk, none⟩ = some (.bool b9)) ∧ w4.frozen? ⟨gg, kk, none⟩ = false := by
                  rcases HP3.out.g.form with ⟨e, e0, -⟩ | ⟨g9, c9, e, -, -, -, hc9⟩
                  · have := HM.out.len; omega
                  · injection e with e1 e2 e3
                    have hkg : kk < gone.length := by rw [HM.out.len]; exact r4
                    obtain ⟨d1, d2⟩ := hc9 kk (by rw [List.length_map]; exact hkg)
                    refine ⟨g9, e1, ⟨gone.getD kk false, ?_⟩, d2⟩
                    rw [d1, List.getD_eq_getElem?_getD, List.getElem?_map, List.getD_eq_getElem?_getD, List.getElem?_eq_getElem hkg]; rfl
                obtain ⟨b9, gcell⟩ := gcell
                subst hga
                have HP5 : Hid (PlX w (w4.setCell ⟨gg, kk, none⟩ (.bool true)) r (S.rem (normC c)) (.slice na ln nc) (.slice (some ⟨gg, 0, none⟩) ln gc) l (gone.set kk true)) := Lib.hid (by
                  have h9 := HP3.out
                  have e9 : ln = gone.length := by rw [HM.out.len]; exact HLN.out
                  rw [e9] at h9 ⊢
                  have h8 := h9.setG kk
                  exact h8)
                subst hz1
                clear r1 r2 r3 r4 hs0
                have HLENc := Lib.hid (rupLen_ HP5.out.x.at_)
                have HTHc := Lib.hid (law_there HP5.out.l.t HP5.out.g.boolsR HM3.out.len (by have := HL3.out; omega))
                go_wp2_with fail
                refine HLENc.out.mono ?_
                rintro e wlc ⟨rfl, rfl⟩
                go_wp2_with fail
                refine HTHc.out.mono ?_
                rintro e wtc ⟨vtc, rfl, htc, hbtc⟩
                have HRc : Hid (PlR w r _ _ (k + 1) wtc) := Lib.hid ⟨_, _, _, HP5.out.below hbtc, HM3.out, HL3.out⟩
                have hlivec := HM3.out.live
                obtain ⟨tac, tcc, tusc, htec, -, -, -⟩ := htc.t
                rw [← hlivec] at htec
                generalize (RS.live _).length = zc at htec ⊢
                subst htec
                clear htc hbtc hlivec
                go_wp2
                go_roundw
                case rel => exact ⟨k + 1, by omega, by go_num, HRc.out⟩
                case measure => simp [intOf]; omega
            · have hk1b : (kd == 1) = false := by rw [beq_eq_false_iff_ne]; exact hk1
              have HWY := Lib.hid (HPa.out.x.why HPa.out.lt (by have := HS60.out; omega) (HU.out.below HPa.out.x.b) HOK.out.1 HOK.out.2)
              clear hk0 hk1
              go_wp2_with fail
              refine HWY.out.mono ?_
              rintro e w3 ⟨v3, is, R, rfl, hy, h3, hc3, hrow, hvo⟩
              have HY := Lib.hid hy
              have HP3 := Lib.hid (HPa.out.call (h3.weak (fun g hg => .inl hg)) hc3)
              have hRl : R.length = (R.map fun i : Nat => (i : Int)).length := by rw [List.length_map]
              have hrI : Ints w3 v3 (R.map fun i : Nat => (i : Int)) := by
                have e : (R.map fun i : Nat => iv (i : Nat)) = (R.map fun i : Nat => (i : Int)).map iv := by rw [List.map_map]; rfl
                rw [e, hRl] at hrow
                exact hrow.ints
              have HRI := Lib.hid hrI
              have HTH := Lib.hid (law_there HP3.out.l.t HP3.out.g.boolsR HM.out.len (by have := HL.out; omega))
              obtain ⟨va, vc, hve, -, -⟩ := hrI.form2
              rw [List.length_map] at hve
              obtain ⟨rl, hrl⟩ : ∃ rl, rl = R.length := ⟨_, rfl⟩
              have HRL := Lib.hid hrl
              rw [← hrl] at hve
              subst hve
              clear hy h3 hc3 hrow hvo hRl hrI hrl
              go_wp2_with fail
              refine HTH.out.mono ?_
              rintro e w4 ⟨v4, rfl, h4, hb4⟩
              have HB4 := Lib.hid hb4
              have HP4 := Lib.hid (HP3.out.below hb4)
              have HIM := Lib.hid (r23_Implied h4.t.s (there_lits HM.out.li) (by have := there_len l gone; have := HL.out; omega) (HU.out.below HP4.out.x.b) HOK.out.1 HOK.out.2)
              obtain ⟨ta, tc, tus, hte, -, -, -⟩ := h4.t
              generalize (thereL l gone).length = tl at hte
              subst hte
              clear h4 hb4
              go_wp2_with fail
              refine HIM.out.mono ?_
              rintro e w5 ⟨b5, rfl, hbb, hb5⟩
              have hbi : b5 = is := by
                have h1 := HY.out.yes
                rw [HM.out.open_] at h1
                cases b5 <;> cases is <;> simp_all
              have HB5 : Hid (Below w3.heap.size w3 w5) := Lib.hid (HB4.out.trans (hb5.mono HB4.out.size))
              have HP5 := Lib.hid (HP3.out.below HB5.out)
              have HRR : Hid (∀ j ∈ R, j < l.length ∧ gone.getD j true = false) := Lib.hid fun j hj => by
                obtain ⟨j1, j2⟩ := HY.out.on j hj
                rw [HM.out.size] at j1
                refine ⟨j1, ?_⟩
                rw [HM.out.onA j1] at j2
                simpa using j2
              have HON := Lib.hid (law_only HP5.out.l.t HP5.out.g.boolsR HM.out.len (by have := HL.out; omega) (HRI.out.below HB5.out) HRR.out HY.out.up)
              subst hbi
              clear hbb hb5
              have HL3 : Hid (l.length ≤ k + 1) := Lib.hid (by have := HL.out; omega)
              cases b5 with
              | false =>
                have hr0 : rl = 0 := by rw [HRL.out, HY.out.no rfl]; rfl
                subst hr0
                go_wp2_with fail
                refine HON.out.mono ?_
                rintro e w6 ⟨v6, rfl, h6, hb6⟩
                have HP6 := Lib.hid (HP5.out.below hb6)
                clear h6 hb6
                have HLENd := Lib.hid (rupLen_ HP6.out.x.at_)
                have HTHd := Lib.hid (law_there HP6.out.l.t HP6.out.g.boolsR HM.out.len (by have := HL3.out; omega))
                go_wp2_with fail
                refine HLENd.out.mono ?_
                rintro e wld ⟨rfl, rfl⟩
                go_wp2_with fail
                refine HTHd.out.mono ?_
                rintro e wtd ⟨vtd, rfl, htd, hbtd⟩
                have HRd : Hid (PlR w r _ _ (k + 1) wtd) := Lib.hid ⟨_, _, _, HP6.out.below hbtd, HM.out, HL3.out⟩
                have hlived := HM.out.live
                obtain ⟨tad, tcd, tusd, hted, -, -, -⟩ := htd.t
                rw [← hlived] at hted
                generalize (RS.live _).length = zd at hted ⊢
                subst hted
                clear htd hbtd hlived
                go_wp2
                go_roundw
                case rel => exact ⟨k + 1, by omega, by go_num, HRd.out⟩
                case measure => simp [intOf]; omega
              | true =>
                go_wp2_with fail
                refine HON.out.mono ?_
                rintro e w6 ⟨v6, rfl, h6, hb6⟩
                have HP6 := Lib.hid (HP5.out.below hb6)
                have HIM6 := Lib.hid (r23_Implied h6.t.s (pick_lits HM.out.li (fun j hj => (HRR.out j hj).1)) (by
                  unfold pick_
                  rw [List.length_map]
                  have nd : R.Nodup := HY.out.up.imp fun h => by omega
                  have h9 := nd.length_le_of_subset (l₂ := List.range l.length) (fun j hj => List.mem_range.2 (HRR.out j hj).1)
                  rw [List.length_range] at h9
                  have := HL.out; omega) (HU.out.below HP6.out.x.b) HOK.out.1 HOK.out.2)
                obtain ⟨pa, pc, pus, hpe, -, -, -⟩ := h6.t
                generalize (pick_ l R).length = pl at hpe
                subst hpe
                clear h6 hb6
                go_wp2_with fail
                refine HIM6.out.mono ?_
                rintro e w7 ⟨b7, rfl, hb7b, hb7⟩
                have hb71 : b7 = true := hb7b.2 (pick_core HM.out HY.out)
                have HP7 := Lib.hid (HP6.out.below hb7)
                subst hb71
                clear hb7b hb7
                have HLENe := Lib.hid (rupLen_ HP7.out.x.at_)
                have HTHe := Lib.hid (law_there HP7.out.l.t HP7.out.g.boolsR HM.out.len (by have := HL3.out; omega))
                go_wp2_with fail
                refine HLENe.out.mono ?_
                rintro e wle ⟨rfl, rfl⟩
                go_wp2_with fail
                refine HTHe.out.mono ?_
                rintro e wte ⟨vte, rfl, hte, hbte⟩
                have HRe : Hid (PlR w r _ _ (k + 1) wte) := Lib.hid ⟨_, _, _, HP7.out.below hbte, HM.out, HL3.out⟩
                have hlivee := HM.out.live
                obtain ⟨tae, tce, tuse, htee, -, -, -⟩ := hte.t
                rw [← hlivee] at htee
                generalize (RS.live _).length = ze at htee ⊢
                subst htee
                clear hte hbte hlivee
                go_wp2
                go_roundw
                case rel => exact ⟨k + 1, by omega, by go_num, HRe.out⟩
                case measure => simp [intOf]; omega
      · have HA := Lib.hid (alive25 wr)
        have HB := Lib.hid hP.x.b
        clear hP hM hl
        go_wp2_with fail
        refine HA.out.mono ?_
        rintro e w3 ⟨rfl, hb3⟩
        have H3 := Lib.hid (HB.out.trans (hb3.mono HB.out.size))
        clear hb3
        go_wp2
        go_ret
        exact ⟨rfl, H3.out⟩
end Go.Proofs.Ytknpfopepedmmaa
namespace Go.Proofs.Ytknpfopepedmmaa.Fr
open Go Go.RowKit Go.ChangeShapes Go.WideShapes Go.Deep
section
variable {H : Type} {enc : TypeId × Value → H} {w : World}
set_option maxRecDepth 100000 in
theorem acts25_of {v : Value} {d : DataW H} {p : List MemPlace} (hv : ∃ b, Value.okWide Try.prog w .any b 22 v) (h : DataW.Trod enc Try.prog w 0 (fun _ => true) true 22 v d p) : ∃ xs, ActS w v xs := by
  obtain ⟨xs, hx⟩ := pair_of (0 : Int) (Value.int .i64) Try.underlying22 Try.underlying30 (by kernel_rfl) (by kernel_rfl) Try.underlying28 Try.underlying3 (by kernel_rfl)
    (fun n l y hy => by obtain ⟨z, e, -⟩ := DataW.trod_int Try.underlying3 hy; exact ⟨z, e⟩) hv h
  exact ⟨xs, hx⟩
end
end Go.Proofs.Ytknpfopepedmmaa.Fr
