/-
  The document's reader of bytes: Want.
-/
import Derived.Test.YtnpmaphedcfnnaaDoorScH
import Derived.WalkMore
namespace Go.Proofs.YtnpmaphedcfnnaaDoor
open Go.ChangeShapes Go.WideShapes Go.ChangeAt Go.RowKit
set_option linter.unusedVariables false
/-- The document's reader at block r. -/
def R3At (w : World) (r : Nat) (l : List UInt8) (k : Nat) : Prop := ∃ v, Blk w r 97 #[v, .int .i64 (k : Int)] ∧ By w v l ∧ k ≤ l.length ∧ l.length ≤ 100000 ∧ (l = [] ∨ ∀ g, v.ownBlock = some g → g < r)
theorem R3At.qt {w w' : World} {r : Nat} {l : List UInt8} {k : Nat} (h : R3At w r l k) (hq : Qt w w') : R3At w' r l k := by
  obtain ⟨n, rfl⟩ := hq
  exact h
theorem R3At.lt {w : World} {r : Nat} {l : List UInt8} {k : Nat} (h : R3At w r l k) : r < w.heap.size := h.choose_spec.1.lt
theorem R3At.len {w : World} {r : Nat} {l : List UInt8} {k : Nat} (h : R3At w r l k) : k ≤ l.length ∧ l.length ≤ 100000 := ⟨h.choose_spec.2.2.1, h.choose_spec.2.2.2.1⟩
theorem R3At.chg {w w' : World} {S : Nat → Prop} {r : Nat} {l : List UInt8} {k : Nat} (h : R3At w r l k) (hc : Chg S w w') (hS : ∀ g, S g → r < g) : R3At w' r l k := by
  obtain ⟨v, h1, h2, h3, h4, h5⟩ := h
  refine ⟨v, h1.chg hc (fun e => by have := hS r e; omega), ?_, h3, h4, h5⟩
  rcases h5 with h5 | h5
  · obtain ⟨a, cap, rfl, g1, g2, -⟩ := h2
    exact ⟨a, cap, rfl, g1, g2, .inl h5⟩
  · exact h2.chg hc (fun g hg hs => by have := hS g hs; have := h5 g hg; omega)
theorem R3At.below {w w' : World} {r : Nat} {l : List UInt8} {k : Nat} (h : R3At w r l k) (hb : Below w.heap.size w w') : R3At w' r l k := h.chg (S := fun _ => False) (Chg.of_below hb) (fun _ h => h.elim)
theorem R3At.move {w : World} {r : Nat} {l : List UInt8} {k m : Nat} (h : R3At w r l k) (hm : m ≤ l.length) : R3At (w.setCell ⟨r, 1, none⟩ (.int .i64 (m : Int))) r l m := by
  obtain ⟨v, hb, hv, hk, hl, h5⟩ := h
  refine ⟨_, hb.set_ 1 _, ?_, hm, hl, h5⟩
  obtain ⟨a, cap, rfl, g1, g2, g3⟩ := hv
  refine ⟨a, cap, rfl, g1, g2, ?_⟩
  rcases h5 with h5 | h5
  · exact .inl h5
  · refine g3.elim .inl fun ⟨b, off, e, hc⟩ => .inr ⟨b, off, e, fun j hj => ?_⟩
    subst e
    have hj := hc j hj
    have hne : b ≠ r := by have := h5 b rfl; omega
    unfold ByR at hj ⊢
    rw [World.cell?_of_block (w := w) (Below.heap_setCell w ⟨r, 1, none⟩ (.int .i64 (m : Int)) b hne)]
    exact hj
/-- What it holds, and a byte of it. -/
theorem R3At.cells {w : World} {r : Nat} {l : List UInt8} {k : Nat} (h : R3At w r l k) : ∃ a cap, w.cell? ⟨r, 0, none⟩ = some (.slice a l.length cap) ∧ w.cell? ⟨r, 1, none⟩ = some (.int .i64 (k : Int)) ∧ w.frozen? ⟨r, 1, none⟩ = false := by
  obtain ⟨v, hb, hv, -⟩ := h
  obtain ⟨a, cap, rfl, -, -⟩ := hv.form
  exact ⟨a, cap, hb.cell 0, hb.cell 1, hb.frozen 1⟩
theorem R3At.byte {w : World} {r : Nat} {l : List UInt8} {k j : Nat} (h : R3At w r l k) (hj : j < l.length) : ∃ b off cap, w.cell? ⟨r, 0, none⟩ = some (.slice (some ⟨b, off, none⟩) l.length cap) ∧ w.cell? ⟨r, 1, none⟩ = some (.int .i64 (k : Int)) ∧ w.frozen? ⟨r, 1, none⟩ = false ∧ w.cell? ⟨b, off + j, none⟩ = some (.int .u8 ((l.getD j 0).toNat : Int)) := by
  obtain ⟨v, hb, hv, -⟩ := h
  obtain ⟨b, off, cap, rfl, hc⟩ := hv.at_ hj
  unfold ByR at hc
  rw [Nat.mul_one] at hc
  exact ⟨b, off, cap, hb.cell 0, hb.cell 1, hb.frozen 1, hc⟩
theorem qt1 (w : World) (n : Nat) : Qt w (w.drewN n) := ⟨n, rfl⟩
theorem qt2 (w : World) (n m : Nat) : Qt w ((w.drewN n).drewN m) := (qt1 w n).trans (qt1 _ m)
theorem qt3 (w : World) (n m k : Nat) : Qt w (((w.drewN n).drewN m).drewN k) := (qt2 w n m).trans (qt1 _ k)
def M3 (w : World) (r : Nat) (l : List UInt8) (m : Nat) (v : Value) (e : Ending) (w' : World) : Prop := e = .returned v ∧ R3At w' r l m ∧ Chg (fun k => k = r) w w'
def W3 (w : World) (r : Nat) (l : List UInt8) (k : Nat) (n : Nat) (o : Option (Nat × Nat)) (e : Ending) (w' : World) : Prop :=
  match o with
  | none => M3 w r l (k + n) (.tuple #[.int .i64 0, .int .i64 (-1)]) e w'
  | some (f, p) => M3 w r l k (.tuple #[.int .i64 (f : Int), .int .i64 (p : Int)]) e w'
theorem w3_none {w w' : World} {r : Nat} {l : List UInt8} {k n : Nat} {o : Option (Nat × Nat)} {v : Value} (ho : o = none) (hv : v = .tuple #[.int .i64 0, .int .i64 (-1)]) (h : R3At w' r l (k + n)) (hc : Chg (fun i => i = r) w w') : W3 w r l k n o (.returned v) w' := by
  subst ho hv
  exact ⟨rfl, h, hc⟩
theorem w3_some {w w' : World} {r : Nat} {l : List UInt8} {k n f p : Nat} {o : Option (Nat × Nat)} {v : Value} (ho : o = some (f, p)) (hv : v = .tuple #[.int .i64 (f : Int), .int .i64 (p : Int)]) (h : R3At w' r l k) (hq : Qt w w') : W3 w r l k n o (.returned v) w' := by
  subst ho hv
  exact ⟨rfl, h, hq.chg (Chg.refl _ _)⟩
set_option maxHeartbeats 1000000 in
theorem r3_Want {w : World} {r : Nat} {l : List UInt8} {k : Nat} (h : R3At w r l k) (s : ByteArray) (hs : s.size ≤ 1000) (o : Option (Nat × Nat)) (ho : wantF s.data.toList l k = o) : Calls Tryd.prog 54 #[.pointer (some ⟨r, 0, none⟩), .string s] w (W3 w r l k s.size o) := by
  have HS := Lib.hid h
  have HO := Lib.hid ho
  have hk0 := h.len
  have hsl : s.data.toList.length = s.size := by rw [Array.length_toList]; rfl
  have h0 := ho
  unfold wantF at h0
  rw [hsl] at h0
  have H0 := Lib.hid h0
  clear h ho h0
  go_enter Tryd.func54, Tryd.ntmps54
  go_wp2
  go_loopw [6] (fun i wr => ∃ j : Nat, j ≤ s.size ∧ i = .int .i64 (j : Int) ∧ Hid (wantG s.data.toList l k (s.size - j) j = o) ∧ Qt w wr) (fun i _ => s.size - (intOf i).toNat)
  case atStart => exact ⟨0, Nat.zero_le _, rfl, H0, Qt.refl _⟩
  case round =>
    clear H0
    obtain ⟨j, hj, rfl, hi, hqr⟩ := hrel
    have hs1 := HS.out.qt hqr
    have HR := Lib.hid hqr
    have HSR := Lib.hid hs1
    by_cases hlt : (j : Int) < (s.size : Int)
    · have hlt' : j < s.size := by omega
      have h0 := hi.out
      rw [show s.size - j = (s.size - (j + 1)) + 1 by omega] at h0
      unfold wantG at h0
      clear hi hqr
      have hwr : wrap64 ((k : Int) + (j : Int)) = (k : Int) + (j : Int) := by simp (disch := omega) only [IntWalk.wrap64_in]
      by_cases hdl : l.length ≤ k + j
      · rw [if_pos hdl] at h0
        have hdi : (l.length : Int) ≤ (k : Int) + (j : Int) := by omega
        have H0 := Lib.hid h0.symm
        obtain ⟨a, cap, c0, c1, -⟩ := hs1.cells
        clear h0 hs1
        go_wp2
        go_quiet (fail)
        go_wp2
        go_quiet (fail)
        go_wp2
        go_ret2
        exact w3_some H0.out (by go_num) (HSR.out.qt (by first | exact qt3 _ _ _ _ | exact qt2 _ _ _ | exact qt1 _ _)) (HR.out.trans (by first | exact qt3 _ _ _ _ | exact qt2 _ _ _ | exact qt1 _ _))
      · rw [if_neg hdl] at h0
        have hdi : ¬ (l.length : Int) ≤ (k : Int) + (j : Int) := by omega
        obtain ⟨b, off, cap, c0, c1, -, hc⟩ := hs1.byte (j := k + j) (by omega)
        have hsj : s[j].toNat = (s.data.toList.getD j 0).toNat := (getDj s j hlt').symm
        have h255 : s[j].toNat < 256 := s[j].toNat_lt
        have h256 : (l.getD (k + j) 0).toNat < 256 := (l.getD (k + j) 0).toNat_lt
        obtain ⟨c, hcc⟩ : ∃ c, c = (l.getD (k + j) 0).toNat := ⟨_, rfl⟩
        rw [← hcc] at hc h256
        by_cases heq : l.getD (k + j) 0 = s.data.toList.getD j 0
        · rw [if_pos heq] at h0
          have hn : ((c : Int) != (s[j].toNat : Int)) = false := by rw [hsj, ← heq, hcc]; simp
          have H0 := Lib.hid h0
          clear h0 hcc heq hsj hs1
          go_wp2
          go_quiet (fail)
          go_wp2
          go_quiet (fail)
          go_wp2
          go_roundw
          case rel => exact ⟨j + 1, by omega, by go_num, H0, HR.out.trans (by first | exact qt3 _ _ _ _ | exact qt2 _ _ _ | exact qt1 _ _)⟩
          case measure => simp [intOf]; omega
        · rw [if_neg heq] at h0
          have hn : ((c : Int) != (s[j].toNat : Int)) = true := by
            rw [hsj, hcc, bne_iff_ne]
            intro e
            exact heq (UInt8.toNat.inj (by omega))
          have H0 := Lib.hid h0.symm
          clear h0 hcc heq hsj hs1
          go_wp2
          go_quiet (fail)
          go_wp2
          go_quiet (fail)
          go_wp2
          go_quiet (fail)
          go_wp2
          go_ret2
          exact w3_some H0.out (by go_num) (HSR.out.qt (by first | exact qt3 _ _ _ _ | exact qt2 _ _ _ | exact qt1 _ _)) (HR.out.trans (by first | exact qt3 _ _ _ _ | exact qt2 _ _ _ | exact qt1 _ _))
    · have hjs : j = s.size := by omega
      subst hjs
      have h0 := hi.out
      rw [Nat.sub_self] at h0
      have hno : o = none := h0.symm
      have hle : k + s.size ≤ l.length := by
        have := wantF_ok (t := s.data.toList) hk0.1 (HO.out.trans hno)
        rw [hsl] at this
        exact this
      have hmv := hs1.move hle
      obtain ⟨a, cap, c0, c1, f1⟩ := hs1.cells
      have hz : ((k + s.size : Nat) : Int) = (k : Int) + (s.size : Int) := by omega
      rw [hz] at hmv
      have hcg : Chg (fun i => i = r) w (wr.setCell ⟨r, 1, none⟩ (.int .i64 ((k : Int) + (s.size : Int)))) := HR.out.chg ((Chg.refl (fun i => i = r) wr).setCell (p := ⟨r, 1, none⟩) (.inl rfl) _)
      have HM := Lib.hid hmv
      have HC := Lib.hid hcg
      have HN := Lib.hid hno
      clear h0 hi hmv hcg hno hqr hz hs1
      go_wp2
      go_ret2
      exact w3_none HN.out rfl HM.out HC.out
end Go.Proofs.YtnpmaphedcfnnaaDoor
/-
  The document's reader of bytes: Number.
-/
namespace Go.Proofs.YtnpmaphedcfnnaaDoor
open Go.ChangeShapes Go.WideShapes Go.ChangeAt Go.RowKit
set_option linter.unusedVariables false
theorem digit_ (c : Nat) (w : World) : Calls Tryd.prog 96 #[.int .u8 (c : Int)] w fun e w' => e = .returned (.bool (decide (48 ≤ c ∧ c ≤ 57))) ∧ w' = w := by
  by_cases h1 : (48 : Int) ≤ (c : Int)
  · by_cases h2 : (c : Int) ≤ 57
    · have hd : decide (48 ≤ c ∧ c ≤ 57) = true := decide_eq_true (by omega)
      rw [hd]
      clear hd
      go_enter Tryd.func96, Tryd.ntmps96
      go_wp2
      go_ret
      exact ⟨rfl, rfl⟩
    · have hd : decide (48 ≤ c ∧ c ≤ 57) = false := decide_eq_false (by omega)
      rw [hd]
      clear hd
      go_enter Tryd.func96, Tryd.ntmps96
      go_wp2
      go_ret
      exact ⟨rfl, rfl⟩
  · have hd : decide (48 ≤ c ∧ c ≤ 57) = false := decide_eq_false (by omega)
    rw [hd]
    clear hd
    go_enter Tryd.func96, Tryd.ntmps96
    go_wp2
    go_ret
    exact ⟨rfl, rfl⟩
def N3 (w : World) (r : Nat) (l : List UInt8) (k : Nat) (o : Except Nat (Nat × Nat)) (e : Ending) (w' : World) : Prop :=
  match o with
  | .error f => M3 w r l k (.tuple #[.int .i64 0, .int .i64 (f : Int)]) e w'
  | .ok (n, m) => M3 w r l m (.tuple #[.int .i64 (n : Int), .int .i64 0]) e w'
theorem n3_err {w w' : World} {r : Nat} {l : List UInt8} {k f : Nat} {o : Except Nat (Nat × Nat)} {v : Value} (ho : o = .error f) (hv : v = .tuple #[.int .i64 0, .int .i64 (f : Int)]) (h : R3At w' r l k) (hq : Qt w w') : N3 w r l k o (.returned v) w' := by
  subst ho hv
  exact ⟨rfl, h, hq.chg (Chg.refl _ _)⟩
theorem n3_ok {w w' : World} {r : Nat} {l : List UInt8} {k n m : Nat} {o : Except Nat (Nat × Nat)} {v : Value} (ho : o = .ok (n, m)) (hv : v = .tuple #[.int .i64 (n : Int), .int .i64 0]) (h : R3At w' r l m) (hc : Chg (fun i => i = r) w w') : N3 w r l k o (.returned v) w' := by
  subst ho hv
  exact ⟨rfl, h, hc⟩
theorem num_abs {most : Nat} {l : List UInt8} {k m : Nat} {o : Except Nat (Nat × Nat)} (ho : numF most l k = o) (hj : k < m) (hE : endF l k = m) (hlen : m ≤ l.length) :
    (∀ x, k ≤ x → x < m → ∃ dd, dd ≤ 9 ∧ (l.getD x 0).toNat = 48 + dd) ∧ (l.getD k 0 = 48 → k + 1 < m → o = .error 4) ∧ (¬ (l.getD k 0 = 48 ∧ k + 1 < m) → valG most l (m - k) k 0 = none → o = .error 4) ∧ (¬ (l.getD k 0 = 48 ∧ k + 1 < m) → ∀ n, valG most l (m - k) k 0 = some n → o = .ok (n, m)) := by
  obtain ⟨j, rfl⟩ : ∃ j, m = k + j := ⟨m - k, by omega⟩
  obtain ⟨h1, h2, h3, h4⟩ := num_more ho (j := j) (by omega) hE hlen
  rw [Nat.add_sub_cancel_left]
  refine ⟨fun x hx hx2 => ?_, fun a b => h2 a (by omega), fun a b => h3 (fun h => a ⟨h.1, by omega⟩) b, fun a n b => h4 (fun h => a ⟨h.1, by omega⟩) n b⟩
  have := h1 (x - k) (by omega)
  rw [show k + (x - k) = x by omega] at this
  exact this
set_option maxHeartbeats 8000000 in
theorem r3_Number {w : World} {r : Nat} {l : List UInt8} {k : Nat} (h : R3At w r l k) (most : Nat) (hmost : (most : Int) ≤ 4611686018427387904) (o : Except Nat (Nat × Nat)) (ho : numF most l k = o) : Calls Tryd.prog 86 #[.pointer (some ⟨r, 0, none⟩), .int .i64 (most : Int)] w (N3 w r l k o) := by
  have HS := Lib.hid h
  have HO := Lib.hid ho
  have hk0 := h.len
  clear ho
  by_cases hk : l.length ≤ k
  · have hki : (l.length : Int) ≤ (k : Int) := by omega
    have ho : o = .error 12 := by
      rw [← HO.out]
      unfold numF
      rw [if_pos hk]
    have HE := Lib.hid ho
    obtain ⟨a, cap, c0, c1, -⟩ := h.cells
    clear h ho
    go_enter Tryd.func86, Tryd.ntmps86
    go_wp2
    go_quiet (fail)
    go_wp2
    go_ret2
    exact n3_err HE.out rfl (HS.out.qt (qt1 _ _)) (qt1 _ _)
  · have hki : ¬ (l.length : Int) ≤ (k : Int) := by omega
    obtain ⟨b, off, cap, c0, c1, f1, hc⟩ := h.byte (j := k) (by omega)
    have h256 : (l.getD k 0).toNat < 256 := (l.getD k 0).toNat_lt
    have H48 : Hid ((l.getD k 0).toNat = 48 ↔ l.getD k 0 = 48) := Lib.hid ⟨fun h => UInt8.toNat.inj h, fun h => by rw [h]; rfl⟩
    have HD : Hid (isDig (l.getD k 0) ↔ 48 ≤ (l.getD k 0).toNat ∧ (l.getD k 0).toNat ≤ 57) := Lib.hid Iff.rfl
    generalize hc0 : (l.getD k 0).toNat = c at *
    have HG := Lib.hid (fun W => digit_ c W)
    clear h hc0
    by_cases hd : 48 ≤ c ∧ c ≤ 57
    · have hdb : decide (48 ≤ c ∧ c ≤ 57) = true := decide_eq_true hd
      rw [hdb] at HG
      have HGG := HG
      clear hdb HG
      go_enter Tryd.func86, Tryd.ntmps86
      go_wp2
      go_quiet (fail)
      have hqq := qt1 w nq
      have d0 : (w.drewN nq).cell? ⟨r, 0, none⟩ = some (.slice (some ⟨b, off, none⟩) l.length cap) := c0
      have d1 : (w.drewN nq).cell? ⟨r, 1, none⟩ = some (.int .i64 (k : Int)) := c1
      have dc : (w.drewN nq).cell? ⟨b, off + k, none⟩ = some (.int .u8 (c : Int)) := hc
      generalize w.drewN nq = wq at *
      have HQQ := Lib.hid hqq
      clear hqq
      go_wp2
      go_quiet ((go_at_call 96; exact Calls.quiet_of_same (HGG.out _)))
      go_wp2
      go_loopw [6] (fun i wr => ∃ m : Nat, k ≤ m ∧ m ≤ l.length ∧ i = .int .i64 (m : Int) ∧ Hid (endG l (l.length - m) m = endF l k) ∧ Qt w wr) (fun i _ => l.length - (intOf i).toNat)
      case atStart => exact ⟨k, Nat.le_refl _, hk0.1, rfl, Lib.hid rfl, by first | exact HQQ.out.trans (qt1 _ _) | exact HQQ.out⟩
      case round =>
        obtain ⟨m, hkm, hml, rfl, hi, hq⟩ := hrel
        have HQ := Lib.hid hq
        have hs1 := HS.out.qt hq
        have HS1 := Lib.hid hs1
        have hcr : wr.cell? ⟨b, off + k, none⟩ = some (.int .u8 (c : Int)) := by obtain ⟨n, rfl⟩ := hq; exact hc
        have c0r : wr.cell? ⟨r, 0, none⟩ = some (.slice (some ⟨b, off, none⟩) l.length cap) := by obtain ⟨n, rfl⟩ := hq; exact c0
        have c1r : wr.cell? ⟨r, 1, none⟩ = some (.int .i64 (k : Int)) := by obtain ⟨n, rfl⟩ := hq; exact c1
        have f1r : wr.frozen? ⟨r, 1, none⟩ = false := by obtain ⟨n, rfl⟩ := hq; exact f1
        by_cases hlt : (m : Int) < (l.length : Int)
        · have hml2 : m < l.length := by omega
          have h0 := hi.out
          rw [show l.length - m = (l.length - (m + 1)) + 1 by omega] at h0
          obtain ⟨b', off', cap', e0, -, -, hcm⟩ := hs1.byte hml2
          rw [c0r] at e0
          injection e0 with e0
          injection e0 with e1 e2 e3
          injection e1 with e1
          injection e1 with e4 e5
          subst e4 e5
          have hm256 : (l.getD m 0).toNat < 256 := (l.getD m 0).toNat_lt
          have HGM := Lib.hid (fun W => digit_ (l.getD m 0).toNat W)
          clear hi e2 e3 hs1 hq
          by_cases hdm : isDig (l.getD m 0)
          · rw [endG_yes hdm] at h0
            have hdb : decide (48 ≤ (l.getD m 0).toNat ∧ (l.getD m 0).toNat ≤ 57) = true := decide_eq_true hdm
            rw [hdb] at HGM
            have HGG := HGM
            have H0 := Lib.hid h0
            generalize (l.getD m 0).toNat = cm at *
            clear h0 hdm hdb HGM
            go_wp2_with (go_at_call 96; refine (HGG.out _).mono ?_; rintro e w2 ⟨rfl, hww⟩; obtain rfl := hww.symm)
            go_roundw
            case rel => exact ⟨m + 1, by omega, by omega, by go_num, H0, HQ.out⟩
            case measure => simp [intOf]; omega
          · rw [endG_no hdm] at h0
            have hdb : decide (48 ≤ (l.getD m 0).toNat ∧ (l.getD m 0).toNat ≤ 57) = false := decide_eq_false hdm
            rw [hdb] at HGM
            have HGG := HGM
            have HJ := Lib.hid h0.symm
            have hne : k ≠ m := by
              rintro rfl
              exact hdm (HD.out.2 hd)
            have hkm2 : k < m := by omega
            generalize (l.getD m 0).toNat = cm at *
            clear h0 hdm hdb HGM hne
            obtain ⟨hm, h1, h2, h3⟩ := num_abs HO.out hkm2 HJ.out (by omega)
            have HM := Lib.hid hm
            have hw1 : wrap64 ((k : Int) + 1) = (k : Int) + 1 := by simp (disch := omega) only [IntWalk.wrap64_in]
            by_cases h48 : c = 48
            · have hcb : ((c : Int) == 48) = true := by rw [beq_iff_eq]; omega
              by_cases hk1 : (k : Int) + 1 < (m : Int)
              · have HE := Lib.hid (h1 (H48.out.1 h48) (by omega))
                clear hm h1 h2 h3 h48
                go_wp2_with (go_at_call 96; refine (HGG.out _).mono ?_; rintro e w2 ⟨rfl, hww⟩; obtain rfl := hww.symm)
                go_quiet (fail)
                go_wp2
                go_ret2
                exact n3_err HE.out rfl (HS1.out.qt (qt1 _ _)) (HQ.out.trans (qt1 _ _))
              · have H2 := Lib.hid (h2 (fun h => by omega))
                have H3 := Lib.hid (h3 (fun h => by omega))
                clear hm h1 h2 h3 h48
                go_wp2_with (go_at_call 96; refine (HGG.out _).mono ?_; rintro e w2 ⟨rfl, hww⟩; obtain rfl := hww.symm)
                go_quiet (fail)
                obtain ⟨wo, rfl⟩ : ∃ wo : World, wo = wr := ⟨_, rfl⟩
                go_wp2
                go_loopw [8, 7] (fun i n' wr => ∃ x n : Nat, k ≤ x ∧ x ≤ m ∧ i = .int .i64 (x : Int) ∧ n' = .int .i64 (n : Int) ∧ n ≤ most ∧ Hid (valG most l (m - x) x n = valG most l (m - k) k 0) ∧ Qt wo wr) (fun i _ _ => m - (intOf i).toNat)
                case atStart => exact ⟨k, 0, Nat.le_refl _, by omega, rfl, rfl, Nat.zero_le _, Lib.hid rfl, by first | exact qt3 _ _ _ _ | exact qt2 _ _ _ | exact qt1 _ _ | exact Qt.refl _⟩
                case round =>
                  obtain ⟨x, n, hkx, hxm, rfl, rfl, hn, hv, hqx⟩ := hrel
                  have HQX := Lib.hid (HQ.out.trans hqx)
                  have HQY := Lib.hid hqx
                  have hsx := HS1.out.qt hqx
                  have HSX := Lib.hid hsx
                  by_cases hlt2 : (x : Int) < (m : Int)
                  · have hxm2 : x < m := by omega
                    obtain ⟨dd, hdd, hc48⟩ := HM.out x hkx hxm2
                    have h0 := hv.out
                    rw [show m - x = (m - (x + 1)) + 1 by omega, valG_step hc48] at h0
                    obtain ⟨b2, off2, cap3, d0, -, -, hca⟩ := hsx.byte (j := x) (by omega)
                    rw [hc48] at hca
                    have hs48 : (48 : Int) + (dd : Int) - 48 = (dd : Int) := by omega
                    clear hv hc48 hsx hqx
                    by_cases hm1 : (most : Int) < (dd : Int)
                    · have HE := Lib.hid (H2.out (by rw [← h0, if_pos (.inl (by omega))]))
                      clear h0
                      go_wp2
                      go_ret2
                      exact n3_err HE.out rfl HSX.out HQX.out
                    · have hq := quo_ten most dd (by omega)
                      have hqb : (most - dd) / 10 * 10 ≤ most - dd := Nat.div_mul_le_self _ _
                      by_cases hm2 : (((most - dd) / 10 : Nat) : Int) < (n : Int)
                      · have HE := Lib.hid (H2.out (by rw [← h0, if_pos (.inr (by omega))]))
                        clear h0
                        generalize (most - dd) / 10 = q at *
                        go_wp2
                        go_ret2
                        exact n3_err HE.out rfl HSX.out HQX.out
                      · rw [if_neg (by omega)] at h0
                        have HV := Lib.hid h0
                        clear h0
                        generalize (most - dd) / 10 = q at *
                        have hnn : n * 10 + dd ≤ most := by omega
                        go_wp2
                        go_roundw
                        case rel => exact ⟨x + 1, n * 10 + dd, by omega, by omega, by go_num, by go_num, hnn, HV, HQY.out⟩
                        case measure => simp [intOf]; omega
                  · have hxm2 : x = m := by omega
                    subst hxm2
                    have h0 := hv.out
                    rw [Nat.sub_self] at h0
                    have HE := Lib.hid (H3.out n h0.symm)
                    clear h0 hv hqx
                    have hmv := hsx.move (m := x) (by omega)
                    obtain ⟨a2, cap2, d0, d1, g1⟩ := hsx.cells
                    have hcg : Chg (fun i => i = r) w (wr.setCell ⟨r, 1, none⟩ (.int .i64 (x : Int))) := HQX.out.chg ((Chg.refl (fun i => i = r) wr).setCell (p := ⟨r, 1, none⟩) (.inl rfl) _)
                    have HMV := Lib.hid hmv
                    have HCG := Lib.hid hcg
                    clear hmv hcg hsx
                    go_wp2
                    go_ret2
                    exact n3_ok HE.out rfl HMV.out HCG.out
            · have hcb : ((c : Int) == 48) = false := by rw [beq_eq_false_iff_ne]; omega
              have H2 := Lib.hid (h2 (fun h => h48 (H48.out.2 h.1)))
              have H3 := Lib.hid (h3 (fun h => h48 (H48.out.2 h.1)))
              clear hm h1 h2 h3 h48
              go_wp2_with (go_at_call 96; refine (HGG.out _).mono ?_; rintro e w2 ⟨rfl, hww⟩; obtain rfl := hww.symm)
              go_quiet (fail)
              obtain ⟨wo, rfl⟩ : ∃ wo : World, wo = wr := ⟨_, rfl⟩
              go_wp2
              go_loopw [8, 7] (fun i n' wr => ∃ x n : Nat, k ≤ x ∧ x ≤ m ∧ i = .int .i64 (x : Int) ∧ n' = .int .i64 (n : Int) ∧ n ≤ most ∧ Hid (valG most l (m - x) x n = valG most l (m - k) k 0) ∧ Qt wo wr) (fun i _ _ => m - (intOf i).toNat)
              case atStart => exact ⟨k, 0, Nat.le_refl _, by omega, rfl, rfl, Nat.zero_le _, Lib.hid rfl, by first | exact qt3 _ _ _ _ | exact qt2 _ _ _ | exact qt1 _ _ | exact Qt.refl _⟩
              case round =>
                obtain ⟨x, n, hkx, hxm, rfl, rfl, hn, hv, hqx⟩ := hrel
                have HQX := Lib.hid (HQ.out.trans hqx)
                have HQY := Lib.hid hqx
                have hsx := HS1.out.qt hqx
                have HSX := Lib.hid hsx
                by_cases hlt2 : (x : Int) < (m : Int)
                · have hxm2 : x < m := by omega
                  obtain ⟨dd, hdd, hc48⟩ := HM.out x hkx hxm2
                  have h0 := hv.out
                  rw [show m - x = (m - (x + 1)) + 1 by omega, valG_step hc48] at h0
                  obtain ⟨b2, off2, cap3, d0, -, -, hca⟩ := hsx.byte (j := x) (by omega)
                  rw [hc48] at hca
                  have hs48 : (48 : Int) + (dd : Int) - 48 = (dd : Int) := by omega
                  clear hv hc48 hsx hqx
                  by_cases hm1 : (most : Int) < (dd : Int)
                  · have HE := Lib.hid (H2.out (by rw [← h0, if_pos (.inl (by omega))]))
                    clear h0
                    go_wp2
                    go_ret2
                    exact n3_err HE.out rfl HSX.out HQX.out
                  · have hq := quo_ten most dd (by omega)
                    have hqb : (most - dd) / 10 * 10 ≤ most - dd := Nat.div_mul_le_self _ _
                    by_cases hm2 : (((most - dd) / 10 : Nat) : Int) < (n : Int)
                    · have HE := Lib.hid (H2.out (by rw [← h0, if_pos (.inr (by omega))]))
                      clear h0
                      generalize (most - dd) / 10 = q at *
                      go_wp2
                      go_ret2
                      exact n3_err HE.out rfl HSX.out HQX.out
                    · rw [if_neg (by omega)] at h0
                      have HV := Lib.hid h0
                      clear h0
                      generalize (most - dd) / 10 = q at *
                      have hnn : n * 10 + dd ≤ most := by omega
                      go_wp2
                      go_roundw
                      case rel => exact ⟨x + 1, n * 10 + dd, by omega, by omega, by go_num, by go_num, hnn, HV, HQY.out⟩
                      case measure => simp [intOf]; omega
                · have hxm2 : x = m := by omega
                  subst hxm2
                  have h0 := hv.out
                  rw [Nat.sub_self] at h0
                  have HE := Lib.hid (H3.out n h0.symm)
                  clear h0 hv hqx
                  have hmv := hsx.move (m := x) (by omega)
                  obtain ⟨a2, cap2, d0, d1, g1⟩ := hsx.cells
                  have hcg : Chg (fun i => i = r) w (wr.setCell ⟨r, 1, none⟩ (.int .i64 (x : Int))) := HQX.out.chg ((Chg.refl (fun i => i = r) wr).setCell (p := ⟨r, 1, none⟩) (.inl rfl) _)
                  have HMV := Lib.hid hmv
                  have HCG := Lib.hid hcg
                  clear hmv hcg hsx
                  go_wp2
                  go_ret2
                  exact n3_ok HE.out rfl HMV.out HCG.out
        · have hme : m = l.length := by omega
          have h0 := hi.out
          rw [show l.length - m = 0 by omega] at h0
          have HJ := Lib.hid h0.symm
          have hkm2 : k < m := by omega
          have HGG := HGG
          clear hi h0 hs1 hq hme
          obtain ⟨hm, h1, h2, h3⟩ := num_abs HO.out hkm2 HJ.out (by omega)
          have HM := Lib.hid hm
          have hw1 : wrap64 ((k : Int) + 1) = (k : Int) + 1 := by simp (disch := omega) only [IntWalk.wrap64_in]
          by_cases h48 : c = 48
          · have hcb : ((c : Int) == 48) = true := by rw [beq_iff_eq]; omega
            by_cases hk1 : (k : Int) + 1 < (m : Int)
            · have HE := Lib.hid (h1 (H48.out.1 h48) (by omega))
              clear hm h1 h2 h3 h48
              go_wp2_with (go_at_call 96; refine (HGG.out _).mono ?_; rintro e w2 ⟨rfl, hww⟩; obtain rfl := hww.symm)
              go_quiet (fail)
              go_wp2
              go_ret2
              exact n3_err HE.out rfl (HS1.out.qt (qt1 _ _)) (HQ.out.trans (qt1 _ _))
            · have H2 := Lib.hid (h2 (fun h => by omega))
              have H3 := Lib.hid (h3 (fun h => by omega))
              clear hm h1 h2 h3 h48
              go_wp2_with (go_at_call 96; refine (HGG.out _).mono ?_; rintro e w2 ⟨rfl, hww⟩; obtain rfl := hww.symm)
              go_quiet (fail)
              obtain ⟨wo, rfl⟩ : ∃ wo : World, wo = wr := ⟨_, rfl⟩
              go_wp2
              go_loopw [8, 7] (fun i n' wr => ∃ x n : Nat, k ≤ x ∧ x ≤ m ∧ i = .int .i64 (x : Int) ∧ n' = .int .i64 (n : Int) ∧ n ≤ most ∧ Hid (valG most l (m - x) x n = valG most l (m - k) k 0) ∧ Qt wo wr) (fun i _ _ => m - (intOf i).toNat)
              case atStart => exact ⟨k, 0, Nat.le_refl _, by omega, rfl, rfl, Nat.zero_le _, Lib.hid rfl, by first | exact qt3 _ _ _ _ | exact qt2 _ _ _ | exact qt1 _ _ | exact Qt.refl _⟩
              case round =>
                obtain ⟨x, n, hkx, hxm, rfl, rfl, hn, hv, hqx⟩ := hrel
                have HQX := Lib.hid (HQ.out.trans hqx)
                have HQY := Lib.hid hqx
                have hsx := HS1.out.qt hqx
                have HSX := Lib.hid hsx
                by_cases hlt2 : (x : Int) < (m : Int)
                · have hxm2 : x < m := by omega
                  obtain ⟨dd, hdd, hc48⟩ := HM.out x hkx hxm2
                  have h0 := hv.out
                  rw [show m - x = (m - (x + 1)) + 1 by omega, valG_step hc48] at h0
                  obtain ⟨b2, off2, cap3, d0, -, -, hca⟩ := hsx.byte (j := x) (by omega)
                  rw [hc48] at hca
                  have hs48 : (48 : Int) + (dd : Int) - 48 = (dd : Int) := by omega
                  clear hv hc48 hsx hqx
                  by_cases hm1 : (most : Int) < (dd : Int)
                  · have HE := Lib.hid (H2.out (by rw [← h0, if_pos (.inl (by omega))]))
                    clear h0
                    go_wp2
                    go_ret2
                    exact n3_err HE.out rfl HSX.out HQX.out
                  · have hq := quo_ten most dd (by omega)
                    have hqb : (most - dd) / 10 * 10 ≤ most - dd := Nat.div_mul_le_self _ _
                    by_cases hm2 : (((most - dd) / 10 : Nat) : Int) < (n : Int)
                    · have HE := Lib.hid (H2.out (by rw [← h0, if_pos (.inr (by omega))]))
                      clear h0
                      generalize (most - dd) / 10 = q at *
                      go_wp2
                      go_ret2
                      exact n3_err HE.out rfl HSX.out HQX.out
                    · rw [if_neg (by omega)] at h0
                      have HV := Lib.hid h0
                      clear h0
                      generalize (most - dd) / 10 = q at *
                      have hnn : n * 10 + dd ≤ most := by omega
                      go_wp2
                      go_roundw
                      case rel => exact ⟨x + 1, n * 10 + dd, by omega, by omega, by go_num, by go_num, hnn, HV, HQY.out⟩
                      case measure => simp [intOf]; omega
                · have hxm2 : x = m := by omega
                  subst hxm2
                  have h0 := hv.out
                  rw [Nat.sub_self] at h0
                  have HE := Lib.hid (H3.out n h0.symm)
                  clear h0 hv hqx
                  have hmv := hsx.move (m := x) (by omega)
                  obtain ⟨a2, cap2, d0, d1, g1⟩ := hsx.cells
                  have hcg : Chg (fun i => i = r) w (wr.setCell ⟨r, 1, none⟩ (.int .i64 (x : Int))) := HQX.out.chg ((Chg.refl (fun i => i = r) wr).setCell (p := ⟨r, 1, none⟩) (.inl rfl) _)
                  have HMV := Lib.hid hmv
                  have HCG := Lib.hid hcg
                  clear hmv hcg hsx
                  go_wp2
                  go_ret2
                  exact n3_ok HE.out rfl HMV.out HCG.out
          · have hcb : ((c : Int) == 48) = false := by rw [beq_eq_false_iff_ne]; omega
            have H2 := Lib.hid (h2 (fun h => h48 (H48.out.2 h.1)))
            have H3 := Lib.hid (h3 (fun h => h48 (H48.out.2 h.1)))
            clear hm h1 h2 h3 h48
            go_wp2_with (go_at_call 96; refine (HGG.out _).mono ?_; rintro e w2 ⟨rfl, hww⟩; obtain rfl := hww.symm)
            go_quiet (fail)
            obtain ⟨wo, rfl⟩ : ∃ wo : World, wo = wr := ⟨_, rfl⟩
            go_wp2
            go_loopw [8, 7] (fun i n' wr => ∃ x n : Nat, k ≤ x ∧ x ≤ m ∧ i = .int .i64 (x : Int) ∧ n' = .int .i64 (n : Int) ∧ n ≤ most ∧ Hid (valG most l (m - x) x n = valG most l (m - k) k 0) ∧ Qt wo wr) (fun i _ _ => m - (intOf i).toNat)
            case atStart => exact ⟨k, 0, Nat.le_refl _, by omega, rfl, rfl, Nat.zero_le _, Lib.hid rfl, by first | exact qt3 _ _ _ _ | exact qt2 _ _ _ | exact qt1 _ _ | exact Qt.refl _⟩
            case round =>
              obtain ⟨x, n, hkx, hxm, rfl, rfl, hn, hv, hqx⟩ := hrel
              have HQX := Lib.hid (HQ.out.trans hqx)
              have HQY := Lib.hid hqx
              have hsx := HS1.out.qt hqx
              have HSX := Lib.hid hsx
              by_cases hlt2 : (x : Int) < (m : Int)
              · have hxm2 : x < m := by omega
                obtain ⟨dd, hdd, hc48⟩ := HM.out x hkx hxm2
                have h0 := hv.out
                rw [show m - x = (m - (x + 1)) + 1 by omega, valG_step hc48] at h0
                obtain ⟨b2, off2, cap3, d0, -, -, hca⟩ := hsx.byte (j := x) (by omega)
                rw [hc48] at hca
                have hs48 : (48 : Int) + (dd : Int) - 48 = (dd : Int) := by omega
                clear hv hc48 hsx hqx
                by_cases hm1 : (most : Int) < (dd : Int)
                · have HE := Lib.hid (H2.out (by rw [← h0, if_pos (.inl (by omega))]))
                  clear h0
                  go_wp2
                  go_ret2
                  exact n3_err HE.out rfl HSX.out HQX.out
                · have hq := quo_ten most dd (by omega)
                  have hqb : (most - dd) / 10 * 10 ≤ most - dd := Nat.div_mul_le_self _ _
                  by_cases hm2 : (((most - dd) / 10 : Nat) : Int) < (n : Int)
                  · have HE := Lib.hid (H2.out (by rw [← h0, if_pos (.inr (by omega))]))
                    clear h0
                    generalize (most - dd) / 10 = q at *
                    go_wp2
                    go_ret2
                    exact n3_err HE.out rfl HSX.out HQX.out
                  · rw [if_neg (by omega)] at h0
                    have HV := Lib.hid h0
                    clear h0
                    generalize (most - dd) / 10 = q at *
                    have hnn : n * 10 + dd ≤ most := by omega
                    go_wp2
                    go_roundw
                    case rel => exact ⟨x + 1, n * 10 + dd, by omega, by omega, by go_num, by go_num, hnn, HV, HQY.out⟩
                    case measure => simp [intOf]; omega
              · have hxm2 : x = m := by omega
                subst hxm2
                have h0 := hv.out
                rw [Nat.sub_self] at h0
                have HE := Lib.hid (H3.out n h0.symm)
                clear h0 hv hqx
                have hmv := hsx.move (m := x) (by omega)
                obtain ⟨a2, cap2, d0, d1, g1⟩ := hsx.cells
                have hcg : Chg (fun i => i = r) w (wr.setCell ⟨r, 1, none⟩ (.int .i64 (x : Int))) := HQX.out.chg ((Chg.refl (fun i => i = r) wr).setCell (p := ⟨r, 1, none⟩) (.inl rfl) _)
                have HMV := Lib.hid hmv
                have HCG := Lib.hid hcg
                clear hmv hcg hsx
                go_wp2
                go_ret2
                exact n3_ok HE.out rfl HMV.out HCG.out
    · have hdb : decide (48 ≤ c ∧ c ≤ 57) = false := decide_eq_false hd
      rw [hdb] at HG
      have HGG := HG
      have ho : o = .error 2 := by
        rw [← HO.out]
        unfold numF
        rw [if_neg hk, if_pos (fun h => hd (HD.out.1 h))]
      have HE := Lib.hid ho
      clear hdb HG ho hd
      go_enter Tryd.func86, Tryd.ntmps86
      go_wp2
      go_quiet (fail)
      have hqq := qt1 w nq
      have d0 : (w.drewN nq).cell? ⟨r, 0, none⟩ = some (.slice (some ⟨b, off, none⟩) l.length cap) := c0
      have d1 : (w.drewN nq).cell? ⟨r, 1, none⟩ = some (.int .i64 (k : Int)) := c1
      have dc : (w.drewN nq).cell? ⟨b, off + k, none⟩ = some (.int .u8 (c : Int)) := hc
      generalize w.drewN nq = wq at *
      have HQQ := Lib.hid hqq
      clear hqq
      go_wp2
      go_quiet ((go_at_call 96; exact Calls.quiet_of_same (HGG.out _)))
      go_wp2
      go_ret2
      exact n3_err HE.out rfl (HS.out.qt (HQQ.out.trans (qt1 _ _))) (HQQ.out.trans (qt1 _ _))
end Go.Proofs.YtnpmaphedcfnnaaDoor
