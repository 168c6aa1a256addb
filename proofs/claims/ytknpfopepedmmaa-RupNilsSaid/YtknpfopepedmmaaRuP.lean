/-
  Package rup: a literal's value, an assignment, a clause looked at, walked.
-/
import Derived.Test.YtknpfopepedmmaaRuK
import Derived.WalkSpells
import Derived.WalkLawsBesides
namespace Go.Proofs.Ytknpfopepedmmaa
open Go Go.ChangeShapes Go.WideShapes Go.ChangeAt Go.RowKit Go.Maps
set_option linter.unusedVariables false
set_option linter.unusedSimpArgs false
theorem tmM : Try.prog.underlying 70 = some (.map 3 eMark.e) := Try.underlying70
theorem cellB {w w' : World} {b o : Nat} {u : Value} (h : w.cell? ⟨b, o, none⟩ = some u) (hb : Below w.heap.size w w') : w'.cell? ⟨b, o, none⟩ = some u := by
  rw [World.cell?_of_block (w := w) (hb.block b (World.block_lt_of_cell? w _ h))]; exact h
abbrev kp (r : Nat) : Value := .pointer (some ⟨r, 0, none⟩)
theorem lit30.in64 {l : Int} (h : lit30 l) : Go.Proofs.Ytknpfopepedmmaa.in64 (vr l) := by obtain ⟨a, b, c⟩ := h; unfold vr Go.Proofs.Ytknpfopepedmmaa.in64; omega
section
variable {w : World} {r : Nat} {S : RS} {vl vt : Value} {bt bo bm nt no nm : Nat} {us : List Value} {ho : Int → Option (Option (Nat × Nat × Nat))}
set_option maxHeartbeats 1000000 in
set_option maxRecDepth 100000 in
theorem value_ (h : KP w r S vl vt bt bo bm nt no nm us ho) (hc : Con S.T) {l : Int} (hl : lit30 l) : Calls Try.prog 49 #[kp r, .int .i64 l] w fun e w' => e = .returned (.int .i64 (valR l S.T)) ∧ Below w.heap.size w w' := by
  have c3 : w.cell? ⟨r, 3, none⟩ = some (.map (some bm)) := h.b.cell 3
  have hlk := h.m.look_ok tmM hl.in64
  have hv := Lib.hid (markF_val hc hl.1)
  have hw : IntKind.i64.wrap (-l) = -l := IntWalk.i64_in _ (by obtain ⟨a, b, c⟩ := hl; omega)
  have hm : (if l < -l then -l else l) = vr l := by unfold vr; split <;> omega
  generalize markF S (vr l) = mk at *
  generalize valR l S.T = vv at *
  have HB : Hid (∀ c, Below w.heap.size w (w.alloc c)) := Lib.hid fun c => (Below.refl _ w).alloc (Nat.le_refl _) c
  clear h hc hl
  cases mk with
  | none =>
    have HF : Hid (Ending.returned (.int .i64 0) = .returned (.int .i64 vv)) := Lib.hid (by rw [hv.out])
    replace hlk : (Instr.lookup 70 (.map (some bm)) (.int .i64 (vr l)) true).run Try.prog w = .ok (.tuple #[.agg #[.bool false, .int .i64 0], .bool false]) w := hlk
    clear hv
    go_enter Try.func49, Try.ntmps49
    go_wp2
    go_ret
    exact ⟨HF.out, HB.out _⟩
  | some p =>
    obtain ⟨b, n⟩ := p
    replace hlk : (Instr.lookup 70 (.map (some bm)) (.int .i64 (vr l)) true).run Try.prog w = .ok (.tuple #[.agg #[.bool b, .int .i64 n], .bool true]) w := hlk
    by_cases hb : b = decide (0 < l)
    · have HF : Hid (Ending.returned (.int .i64 1) = .returned (.int .i64 vv)) := Lib.hid (by rw [hv.out]; simp only; rw [if_pos hb])
      have e1 : (b == decide (0 < l)) = true := by simpa using hb
      clear hv hb
      go_enter Try.func49, Try.ntmps49
      go_wp2
      go_ret
      exact ⟨HF.out, HB.out _⟩
    · have HF : Hid (Ending.returned (.int .i64 (-1)) = .returned (.int .i64 vv)) := Lib.hid (by rw [hv.out]; simp only; rw [if_neg hb])
      have e1 : (b == decide (0 < l)) = false := by simpa using hb
      clear hv hb
      go_enter Try.func49, Try.ntmps49
      go_wp2
      go_ret
      exact ⟨HF.out, HB.out _⟩
theorem mark_keys {ks : List Int} (hn : ks.Nodup) (h : ∀ x ∈ ks, 0 < x ∧ x ≤ 1073741824) : ks.length ≤ 1073741824 := by
  have hs : (ks.map fun x => x.natAbs - 1).Nodup := by
    refine List.Pairwise.map _ ?_ (List.Pairwise.and_mem.1 hn)
    intro a b ⟨ha, hb, hne⟩ he
    have a0 := (h a ha).1
    have b0 := (h b hb).1
    omega
  have := hs.length_le_of_subset (l₂ := List.range 1073741824) (fun v hv => by
    obtain ⟨x, hx, rfl⟩ := List.mem_map.1 hv
    obtain ⟨x1, x2⟩ := h x hx
    rw [List.mem_range]; omega)
  simpa using this
theorem markF_in {S : RS} (hc : Con S.T) {x : Int} (h : (markF S x).isSome = true) : 0 < x ∧ x ≤ 1073741824 := by
  unfold markF at h
  split at h
  · simp at h
  · refine ⟨by omega, ?_⟩
    cases hf : S.tr.find? fun e => decide (e.1 = x ∨ e.1 = -x) with
    | none => rw [hf] at h; simp at h
    | some e =>
      have h1 := List.find?_some hf
      have h2 : e.1 ∈ S.T := List.mem_map.2 ⟨e, List.mem_of_find?_eq_some hf, rfl⟩
      obtain ⟨-, l1, l2⟩ := hc.li _ h2
      have h1 : e.1 = x ∨ e.1 = -x := by simpa using h1
      omega
theorem KP.asg (h : KP w r S vl vt bt bo bm nt no nm us ho) {l b : Int} (hl : l ≠ 0) (hv : valR l S.T = 0) {w1 w2 : World} {v' : Value} {nm' : Nat}
    (hm : MapF eMark w1 bm nm' (upd (markF S) (vr l) (some (decide (0 < l), b)))) (c1 : Chg (fun k => k = bm) w w1)
    (hp : AppPost (w1.alloc (.cells #[.int .i64 l] 3)) 3 1 vt (S.tr.length + 1) (S.T.map iv ++ [.int .i64 l]) v' w2) :
    KP (w2.setCell ⟨r, 4, none⟩ v') r (S.asg l b) vl v' bt bo bm nt no nm' us ho ∧ Chg (fun k => k = r ∨ k = bm ∨ vt.ownBlock = some k) w (w2.setCell ⟨r, 4, none⟩ v') ∧ (v'.ownBlock = vt.ownBlock ∨ ∃ g, v'.ownBlock = some g ∧ w.heap.size ≤ g) ∧ Blk w2 r 72 #[vl, .map (some bt), .map (some bo), .map (some bm), vt, .int .i64 (S.base : Nat), .int .i64 S.bk] := by
  obtain ⟨p1, p2, p3⟩ := hp
  obtain ⟨d1, d2, d3, d4, d5, d6⟩ := h.d
  have hr2 : w.heap.size ≤ (w1.alloc (.cells #[.int .i64 l] 3)).heap.size := by have := c1.size; simp; omega
  have own' : v'.ownBlock = vt.ownBlock ∨ ∃ g, v'.ownBlock = some g ∧ w.heap.size ≤ g := by
    rcases p3 with e | e
    · exact .inl e
    · exact .inr ⟨_, e, hr2⟩
  have c2 : Chg (fun k => k = bm ∨ vt.ownBlock = some k) w w2 := (((c1.mono (S' := fun k => k = bm ∨ vt.ownBlock = some k) (fun i hi => .inl hi)).alloc _).trans p2 (fun i hi => .inl (.inr hi)))
  have hb2 : Blk w2 r 72 _ := h.b.chg c2 (fun e => by
    rcases e with e | e
    · exact d3 e
    · exact (h.st r e).1 rfl)
  have c3 : Chg (fun k => k = r ∨ k = bm ∨ vt.ownBlock = some k) w (w2.setCell ⟨r, 4, none⟩ v') := (c2.mono (S' := fun k => k = r ∨ k = bm ∨ vt.ownBlock = some k) (fun i hi => .inr hi)).setCell (p := ⟨r, 4, none⟩) (.inl (.inl rfl)) _
  have lt' : ∀ g, g < w.heap.size → v'.ownBlock = some g → vt.ownBlock = some g := fun g hg e => by
    rcases own' with e' | ⟨g', e', hg'⟩
    · rw [← e']; exact e
    · rw [e'] at e; injection e with e; omega
  have hbl : ∀ g, HB ho g → g < w.heap.size := fun g hg => by
    obtain ⟨x, hx⟩ := hg
    exact (h.of x).lt g hx
  have bl := h.b.lt
  have tl := h.t.lt
  have ol := h.o.lt
  have ml := h.m.lt
  have nv : ∀ g, g < w.heap.size → (g = r ∨ g = bm ∨ vt.ownBlock = some g) → g = r ∨ g = bm ∨ vt.ownBlock = some g := fun g _ h => h
  refine ⟨⟨hb2.set_ 4 v', h.l.chg c3 (fun g hg hS => ?_), ?_, h.t.chg c3 (fun hS => ?_), h.o.chg c3 (fun hS => ?_), fun x => (h.of x).chg c3 (fun g hg hS => ?_), ?_, ?_, h.d, fun g hg => ?_, fun g hg => ?_, fun g hg => ?_, h.sx⟩, c3, own', hb2⟩
  · obtain ⟨a1, a2, a3, a4, a5⟩ := h.sl g hg
    rcases hS with e | e | e
    · exact a1 e
    · exact a4 e
    · exact a5 e
  · refine ((h.c.mono (S' := fun g => KS r bt bo bm vl vt ho g ∨ w.heap.size ≤ g) (fun g hg hS => hS.resolve_right (by omega))).chg c3 (fun g hg hS => ?_)).mono (fun g hg hS => ?_)
    · rcases hS with e | e | e
      · exact .inl (.inl e)
      · exact .inl (.inr (.inr (.inr (.inl e))))
      · exact .inl (.inr (.inr (.inr (.inr (.inr (.inl e))))))
    · rcases hS with e | e | e | e | e | e | e
      · exact .inl (.inl e)
      · exact .inl (.inr (.inl e))
      · exact .inl (.inr (.inr (.inl e)))
      · exact .inl (.inr (.inr (.inr (.inl e))))
      · exact .inl (.inr (.inr (.inr (.inr (.inl e)))))
      · rcases own' with e' | ⟨g', e', hg'⟩
        · rw [e'] at e; exact .inl (.inr (.inr (.inr (.inr (.inr (.inl e))))))
        · rw [e'] at e; injection e with e; exact .inr (by omega)
      · exact .inl (.inr (.inr (.inr (.inr (.inr (.inr e))))))
  · rcases hS with e | e | e
    · exact d1 e.symm
    · exact d5 e
    · exact (h.st _ e).2.1 rfl
  · rcases hS with e | e | e
    · exact d2 e.symm
    · exact d6 e
    · exact (h.st _ e).2.2.1 rfl
  · obtain ⟨a1, a2, a3, a4, a5, a6⟩ := h.sh g ⟨x, hg⟩
    rcases hS with e | e | e
    · exact a1 e
    · exact a4 e
    · exact a6 e
  · rw [markF_asg hl hv]
    refine ((hm.chg (S := fun k => vt.ownBlock = some k) ((Chg.refl (fun k => vt.ownBlock = some k) w1).alloc (.cells #[.int .i64 l] 3)) (fun e => (h.st _ e).2.2.2 rfl)).chg p2 (fun e => (h.st _ e).2.2.2 rfl)).chg (S := fun k => k = r) ((Chg.refl (fun k => k = r) w2).setCell (p := ⟨r, 4, none⟩) (.inl rfl) _) (fun e => d3 e.symm)
  · have e1 : (S.asg l b).tr.length = S.tr.length + 1 := by simp [RS.asg]
    rw [e1, S.T_asg, List.map_append]
    refine Row.setCell p1 (fun e => ?_) v'
    have := lt' r bl e
    exact (h.st r this).1 rfl
  · obtain ⟨a1, a2, a3, a4, a5⟩ := h.sl g hg
    refine ⟨a1, a2, a3, a4, fun e => a5 (lt' g (h.l.lt g hg) e)⟩
  · by_cases hlt : g < w.heap.size
    · exact h.st g (lt' g hlt hg)
    · exact ⟨by omega, by omega, by omega, by omega⟩
  · obtain ⟨a1, a2, a3, a4, a5, a6⟩ := h.sh g hg
    exact ⟨a1, a2, a3, a4, a5, fun e => a6 (lt' g (hbl g hg) e)⟩
def AsgQ (w : World) (r : Nat) (S : RS) (vl vt : Value) (bt bo bm nt no : Nat) (us : List Value) (ho : Int → Option (Option (Nat × Nat × Nat))) (w' : World) : Prop :=
  ∃ vt' nm', KP w' r S vl vt' bt bo bm nt no nm' us ho ∧ Chg (fun k => k = r ∨ k = bm ∨ vt.ownBlock = some k) w w' ∧ (vt'.ownBlock = vt.ownBlock ∨ ∃ g, vt'.ownBlock = some g ∧ w.heap.size ≤ g)
set_option maxHeartbeats 1000000 in
set_option maxRecDepth 100000 in
theorem assign_ (h : KP w r S vl vt bt bo bm nt no nm us ho) (hc : Con S.T) {l b : Int} (hl : lit30 l) (hv : valR l S.T = 0) : Calls Try.prog 50 #[kp r, .int .i64 l, .int .i64 b] w fun e w' => e = .returned (.tuple #[]) ∧ AsgQ w r (S.asg l b) vl vt bt bo bm nt no us ho w' := by
  have c3 : w.cell? ⟨r, 3, none⟩ = some (.map (some bm)) := h.b.cell 3
  have hw : IntKind.i64.wrap (-l) = -l := IntWalk.i64_in _ (by obtain ⟨a, b, c⟩ := hl; omega)
  have hm : (if l < -l then -l else l) = vr l := by unfold vr; split <;> omega
  have hlen : S.tr.length ≤ 1073741824 := by rw [← S.T_len]; exact hc.len
  obtain ⟨w1, hst, hmf, c1⟩ := (h.m.tight (m := 1073741824) (fun ks hn hk => mark_keys hn (fun x hx => markF_in hc (hk x hx)))).store tmM (by unfold maxLen; omega) hl.in64 (decide (0 < l), b)
  replace hst : (Instr.mapUpdate 70 (.map (some bm)) (.int .i64 (vr l)) (.agg #[.bool (decide (0 < l)), .int .i64 b])).run Try.prog w = .ok () w1 := hst
  have c4 : w1.cell? ⟨r, 4, none⟩ = some vt := by
    have := (h.b.chg c1 h.d.2.2.1).cell 4
    exact this
  have HTR := Lib.hid (h.tr.chg c1 (fun g hg e => (h.st g hg).2.2.2 e))
  have HH := Lib.hid h
  have HMF := Lib.hid hmf
  have HC1 := Lib.hid c1
  have HL0 := Lib.hid hl.1
  have HV := Lib.hid hv
  have hl4 : r < w1.heap.size := by have := h.b.lt; have := c1.size; omega
  clear h hc hmf c1 hv hl
  go_enter Try.func50, Try.ntmps50
  go_wp2_with (at_builtin; refine wpList_app rfl _ _ _ rfl 3 (.int .i64 0) 1 8 Try.underlying28 infoI rfl (by decide) vt S.tr.length (S.T.map iv) rfl ?ho _ _ 1 1 [.int .i64 l] rfl rfl ?hn ?hs ?c1 ?c2 ?_)
  case ho => exact HTR.out.alloc _
  case hn => exact cellNew _ _ _ _ (by simp)
  case hs => exact oneCell1 rfl
  case c1 => unfold maxLen; omega
  case c2 => omega
  intro v3 wB hpF
  obtain ⟨g3, cp3, rfl, -, -, -⟩ := hpF.1.some_ (by omega)
  obtain ⟨a1, a2, a3, a4⟩ := HH.out.asg HL0.out HV.out HMF.out HC1.out hpF
  have kB4 : wB.cell? ⟨r, 4, none⟩ = some vt := a4.cell 4
  have rB4 : wB.frozen? ⟨r, 4, none⟩ = false := a4.frozen 4
  have HF : Hid (AsgQ w r (S.asg l b) vl vt bt bo bm nt no us ho (wB.setCell ⟨r, 4, none⟩ (.slice (some ⟨g3, 0, none⟩) (S.tr.length + 1) cp3))) := Lib.hid ⟨_, _, a1, a2, a3⟩
  clear hpF a1 a2 a3 a4
  go_wp2
  go_returns
  exact ⟨rfl, HF.out⟩
end
end Go.Proofs.Ytknpfopepedmmaa
