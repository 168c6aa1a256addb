/-
  Package net: defines, walked.
-/
import Derived.Test.YtgnimegdgphlmaaNetQ
import Derived.Test.YtgnimegdgphlmaaNetI
namespace Go.Proofs.Ytgnimegdgphlmaa
open Go.ChangeShapes Go.WideShapes Go.ChangeAt Go.RowKit Go.Shelf
set_option linter.unusedVariables false
set_option linter.unusedSimpArgs false
attribute [local go_sem] Oper.semAt_some
theorem definesN_app {V : Int} : ∀ {l r sn : List Int}, Defs V (l.reverse ++ sn) → definesN V (l ++ r) sn = definesN V r (l.reverse ++ sn)
  | [], r, sn, _ => rfl
  | x :: l, r, sn, h => by
    rw [List.reverse_cons, List.append_assoc] at h
    have hx : x ∈ l.reverse ++ ([x] ++ sn) := by simp
    have h1 := h.rng x hx
    have h2 : x ∉ sn := by
      have h3 := (List.nodup_append.1 h.nd).2.1
      simp at h3
      exact h3.1
    rw [List.cons_append, definesN_step (by omega) h2, definesN_app (by simpa using h), List.reverse_cons, List.append_assoc]; rfl
theorem blk_putObj {W : World} {g : Nat} {t : TypeId} {cs : Array Value} (h : Blk W g t cs) {l : Nat} {o : Obj} (o' : Obj) (hl : W.heap[l]? = some o) (ho : o.isCells = false) : Blk (W.putObj l o') g t cs := by
  have hn : g ≠ l := by
    rintro rfl
    have h' : W.heap[g]? = some (.cells cs t (0, 0)) := h
    rw [h'] at hl
    cases hl
    cases ho
  exact (World.putObj_heap_other hn).trans h
theorem belowPut {B : Nat} {W : World} {l : Nat} {o o' : Obj} (hg : B ≤ l) (hl : W.heap[l]? = some o) : Below B W (W.putObj l o') :=
  (Below.refl B W).grown (grownBy_putObj' W l o') (by have := (Array.getElem?_eq_some_iff.1 hl).1; omega) (fun k e => by cases e; exact hg)
theorem blk_own {W W' : World} {row : Option Nat} {g : Nat} {t : TypeId} {cs : Array Value} (h : Blk W g t cs) (hg : W.grownBy W' row) (hr : ∀ r, row = some r → ∃ o : Obj, W.heap[r]? = some o ∧ o.isCells = false) : Blk W' g t cs := by
  refine (hg.block g h.lt (fun e => ?_)).trans h
  obtain ⟨o, ho, hc⟩ := hr g e.symm
  have h' : W.heap[g]? = some (.cells cs t (0, 0)) := h
  rw [h'] at ho
  cases ho
  cases hc
theorem below_own {B : Nat} {w W W' : World} {row : Option Nat} (h : Below B w W) (hg : W.grownBy W' row) (hB : B ≤ W.heap.size) (hr : ∀ r, row = some r → B ≤ r) : Below B w W' := h.trans ((Below.refl B W).grown hg hB hr)
theorem vars_in (n : Nat) {w : World} {d : NetD} {ai al ao ab ac am aa : Option Addr} {ci ni cl nl co no cb nb cc nc cm nm ca na : Nat} (v0 : Int) :
    CallsIn Fence.wide n Try.prog 61 #[.agg #[.int .i64 v0, .slice ai ni ci, .slice al nl cl, .slice ao no co, .slice ab nb cb, .slice ac nc cc, .slice am nm cm, .slice aa na ca]] w fun e w' =>
      e = .returned (.func (.func 67) #[] #[.pointer (some ⟨w.heap.size, 0, none⟩)]) ∧ w' = w.alloc (.cells #[.int .i64 v0, .slice ai ni ci, .slice al nl cl, .slice ao no co, .slice ab nb cb, .slice ac nc cc, .slice am nm cm, .slice aa na ca] 27) := by
  refine callsIn_wide.2 ?_
  go_enter Try.func61, Try.ntmps61
  go_wp2
  go_ret
  exact ⟨rfl, rfl⟩
/-- Between two rounds of defines. -/
structure DefI (w : World) (V bx br g bs bl : Nat) (cs : Array Value) (p : List Int) (W : World) : Prop where
  defs : Defs V p.reverse
  net : Blk W bx 27 cs
  res : Blk W br 30 #[.int .i64 0]
  seen : VBlk W g 4 (V + 1) (seenV p.reverse)
  row : Blk W bs 48 #[.slice (some ⟨g, 0, none⟩) (V + 1) (V + 1)]
  left : Blk W bl 3 #[.int .i64 ((V : Int) - p.length)]
  low : Below w.heap.size w W
structure DefX (w : World) (V br : Nat) (c : Code) (p : List Int) (W : World) : Prop where
  jump : c = .ret
  why : ∃ q x code, p = q ++ [x] ∧ Defs V q.reverse ∧ ((code = 5 ∧ (x < 1 ∨ (V : Int) < x)) ∨ (code = 6 ∧ ¬ (x < 1 ∨ (V : Int) < x) ∧ x ∈ q.reverse)) ∧ Blk W br 30 #[.int .i64 code]
  low : Below w.heap.size w W
theorem DefX.code {w W : World} {V br : Nat} {c : Code} {p L : List Int} (h : DefX w V br c p W) (hp : p <+: L) : Blk W br 30 #[.int .i64 (definesN V L [])] := by
  obtain ⟨q, x, code, rfl, hq, hc, hb⟩ := h.why
  obtain ⟨t, rfl⟩ := hp
  rw [List.append_assoc, definesN_app (by simpa using hq), List.append_nil, List.singleton_append]
  rcases hc with ⟨rfl, h1⟩ | ⟨rfl, h1, h2⟩
  · rw [definesN_bad h1]; exact hb
  · rw [definesN_twice h1 h2]; exact hb
set_option maxHeartbeats 8000000 in
set_option maxRecDepth 100000 in
theorem net_defines {w : World} {d : NetD} {vi vl vo vb vc vm va : Value} (h : NetP w d vi vl vo vb vc vm va) (hl : liH d = true) (hm : LiMs d) {V : Nat} (hV : d.vars = V) (hV2 : V ≤ 2000) :
    Calls Try.prog 47 #[netV d vi vl vo vb vc vm va] w (RetF w (definesN d.vars (definedN d) [])) := by
  obtain ⟨ans, hans⟩ : ∃ f, f = definesN d.vars (definedN d) [] := ⟨_, rfl⟩
  rw [← hans]
  rw [hV] at hans
  have HA := Lib.hid hans
  have HP := Lib.hid h
  have HL := Lib.hid hl
  have HM := Lib.hid hm
  have HVV := Lib.hid hV
  obtain ⟨ai, ci, ni, al, cl, nl, ao, co, no, ab, cb, nb, ac, cc, nc, am, cm, nm, aa, ca, na, rfl, rfl, rfl, rfl, rfl, rfl, rfl, -, -⟩ := h.open_ hl
  unfold netV
  rw [hV]
  have hmk := fun W => run_makeN (P := Try.prog) 48 4 (.bool false) 1 1 Try.underlying48 infoB .i64 .i64 (V + 1) (V + 1) (Nat.le_refl _) (by omega) (by omega) W
  rw [show ((V + 1 : Nat) : Int) = (V : Int) + 1 by omega] at hmk
  clear h hl hm hV hans
  refine (callsIn_wide (n := 9)).1 ?_
  refine callsIn_of_wp_marks Try.func47 rfl trivial ?_ rfl
  simp only [Try.ntmps47, List.size_toArray, List.length_cons, List.length_nil, Nat.reduceAdd, Nat.reduceSub, Array.replicate_succ, Array.replicate_zero, List.push_toArray, List.append_toArray, List.nil_append, List.cons_append]
  gi_wp2_with (refine ⟨trivial, ?_⟩; gi_at_call 61; refine (vars_in _ (d := d) _).mono ?_; rintro e w' ⟨rfl, rfl⟩)
  obtain ⟨cs, hcs⟩ : ∃ cs : Array Value, cs = #[.int .i64 (V : Int), .slice ai ni ci, .slice al nl cl, .slice ao no co, .slice ab nb cb, .slice ac nc cc, .slice am nm cm, .slice aa na ca] := ⟨_, rfl⟩
  rw [← hcs]
  obtain ⟨W8, hW8⟩ : ∃ W8 : World, W8 = (((((w.alloc (.cells cs 27)).alloc (.cells #[.int .i64 0] 30)).alloc (.cells (madeCells #[.bool false] (V + 1)) 4)).alloc (.cells #[.slice (some ⟨w.heap.size + 1 + 1, 0, none⟩) (V + 1) (V + 1)] 48)).alloc (.cells #[.int .i64 (V : Int)] 3)).alloc (.cells cs 27) := ⟨_, rfl⟩
  obtain ⟨bx, hbx⟩ : ∃ b, b = w.heap.size := ⟨_, rfl⟩
  obtain ⟨br, hbr⟩ : ∃ b, b = w.heap.size + 1 := ⟨_, rfl⟩
  obtain ⟨g, hg⟩ : ∃ b, b = w.heap.size + 1 + 1 := ⟨_, rfl⟩
  obtain ⟨bs, hbs⟩ : ∃ b, b = w.heap.size + 1 + 1 + 1 := ⟨_, rfl⟩
  obtain ⟨bl, hbl⟩ : ∃ b, b = w.heap.size + 1 + 1 + 1 + 1 := ⟨_, rfl⟩
  obtain ⟨bv, hbv⟩ : ∃ b, b = w.heap.size + 1 + 1 + 1 + 1 + 1 := ⟨_, rfl⟩
  have hI0 : DefI w V bx br g bs bl cs [] W8 := by
    refine ⟨Defs.nil _, ?_, ?_, ?_, ?_, ?_, ?_⟩
    · rw [hW8, hbx]; exact (((((Blk.new w 27 cs).alloc _).alloc _).alloc _).alloc _).alloc _
    · have := ((((Blk.new (w.alloc (.cells cs 27)) 30 #[.int .i64 0]).alloc (.cells (madeCells #[.bool false] (V + 1)) 4)).alloc (.cells #[.slice (some ⟨w.heap.size + 1 + 1, 0, none⟩) (V + 1) (V + 1)] 48)).alloc (.cells #[.int .i64 (V : Int)] 3)).alloc (.cells cs 27)
      rw [hW8, hbr]; simpa using this
    · have h1 := VBlk.made1 (f := seenV []) ((w.alloc (.cells cs 27)).alloc (.cells #[.int .i64 0] 30)) 4 (.bool false) (V + 1) (fun i _ => by unfold seenV; rw [decide_eq_false (fun h => by cases h)])
      have h2 : Blk _ _ _ _ := (((Blk.alloc h1 (.cells #[.slice (some ⟨w.heap.size + 1 + 1, 0, none⟩) (V + 1) (V + 1)] 48)).alloc (.cells #[.int .i64 (V : Int)] 3)).alloc (.cells cs 27))
      rw [hW8, hg]; unfold VBlk; simpa using h2
    · have := ((Blk.new (((w.alloc (.cells cs 27)).alloc (.cells #[.int .i64 0] 30)).alloc (.cells (madeCells #[.bool false] (V + 1)) 4)) 48 #[.slice (some ⟨w.heap.size + 1 + 1, 0, none⟩) (V + 1) (V + 1)]).alloc (.cells #[.int .i64 (V : Int)] 3)).alloc (.cells cs 27)
      rw [hW8, hbs, hg]; simpa using this
    · have := (Blk.new ((((w.alloc (.cells cs 27)).alloc (.cells #[.int .i64 0] 30)).alloc (.cells (madeCells #[.bool false] (V + 1)) 4)).alloc (.cells #[.slice (some ⟨w.heap.size + 1 + 1, 0, none⟩) (V + 1) (V + 1)] 48)) 3 #[.int .i64 (V : Int)]).alloc (.cells cs 27)
      rw [hW8, hbl]; simpa using this
    · rw [hW8]; exact ((((((Below.refl _ w).alloc (Nat.le_refl _) _).alloc (by simp) _).alloc (by simp; omega) _).alloc (by simp; omega) _).alloc (by simp; omega) _).alloc (by simp; omega) _
  have hbV : NBox W8 bv d (.slice ai ni ci) (.slice al nl cl) (.slice ao no co) (.slice ab nb cb) (.slice ac nc cc) (.slice am nm cm) (.slice aa na ca) := by
    have := Blk.new (((((w.alloc (.cells cs 27)).alloc (.cells #[.int .i64 0] 30)).alloc (.cells (madeCells #[.bool false] (V + 1)) 4)).alloc (.cells #[.slice (some ⟨w.heap.size + 1 + 1, 0, none⟩) (V + 1) (V + 1)] 48)).alloc (.cells #[.int .i64 (V : Int)] 3)) 27 cs
    unfold NBox
    rw [hW8, hbv, HVV.out, ← hcs]; simpa using this
  have hsz : W8.heap.size = w.heap.size + 6 := by rw [hW8]; simp
  have hseq : SeqStopsK Fence.wide (9 - 1) Try.prog 67 #[.pointer (some ⟨bv, 0, none⟩)] (fun x : Int => #[.int .i64 x]) (KpC (fun k => k = br ∨ k = g ∨ k = bl) w.heap.size) (fun xs => xs = definedN d) (fun p => p <+: definedN d) (definedN d).length W8 := fun l J Jx W hW hJ hJx hY h0 =>
    vars1_in (9 - 1) (by omega) HP.out HL.out HM.out (hI0.low.trans (hW.mono hI0.low.size)) (hbV.later hW) (fun k hk => by have := hW.size; omega) (by omega) l J Jx hJ hY h0
  rw [← hW8]
  rw [← hbv, ← hbl, ← hbs, ← hg, ← hbr, ← hbx]
  have HSEQ := Lib.hid hseq
  have HI0 := Lib.hid hI0
  have HCS := Lib.hid hcs
  have HSZ : Hid (W8.heap.size = w.heap.size + 6 ∧ bx = w.heap.size ∧ br = w.heap.size + 1 ∧ g = w.heap.size + 2 ∧ bs = w.heap.size + 3 ∧ bl = w.heap.size + 4 ∧ bv = w.heap.size + 5) := Lib.hid (by omega)
  clear hmk hseq hI0 hbV hsz hcs hW8 hbx hbr hg hbs hbl hbv
  refine wpIn_rangeFunc_ownG rfl (by omega) (gf := 67) (lb := #[.pointer (some ⟨bv, 0, none⟩)]) rfl trivial (enters_of Try.func67 (by kernel_rfl) rfl) HSEQ.out
    (fun h k => h.trans k) (fun W l o o' hl ho hc _ => ⟨belowPut (by have := HSZ.out; omega) ho, fun k c hk hcc _ => (World.putObj_heap_other (fun e => by subst e; rw [ho] at hk; cases hk; rw [hc] at hcc; cases hcc)).trans hk⟩) (Below.refl _ _) (fun _ => rfl)
    (DefI w V bx br g bs bl cs) (DefX w V br)
    (fun p W W' row hi hg' hr => ⟨hi.defs, blk_own hi.net hg' (fun r e => (hr r e).2), blk_own hi.res hg' (fun r e => (hr r e).2), blk_own hi.seen hg' (fun r e => (hr r e).2), blk_own hi.row hg' (fun r e => (hr r e).2), blk_own hi.left hg' (fun r e => (hr r e).2), below_own hi.low hg' hi.low.size (fun r e => by have := (hr r e).1; have := HSZ.out; omega)⟩)
    (fun c p W W' row hi hg' hr => ⟨hi.jump, by obtain ⟨q, x, code, h1, h2, h3, h4⟩ := hi.why; exact ⟨q, x, code, h1, h2, h3, blk_own h4 hg' (fun r e => (hr r e).2)⟩, below_own hi.low hg' hi.low.size (fun r e => by have := (hr r e).1; have := HSZ.out; omega)⟩)
    HI0.out
    (fun x => { tmps := #[.agg cs, .pointer (some ⟨bx, 0, none⟩), .pointer (some ⟨br, 0, none⟩), .pointer (some ⟨bs, 0, none⟩), .pointer (some ⟨bl, 0, none⟩), .int .i64 x, .pointer (some ⟨bx, 0, none⟩), .int .i64 (V : Int), .int .i64 ((V : Int) + 1), .slice (some ⟨g, 0, none⟩) (V + 1) (V + 1), .pointer (some ⟨bx, 0, none⟩), .int .i64 (V : Int), .agg cs, .func (.func 67) #[] #[.pointer (some ⟨bv, 0, none⟩)], .int .i64 x, undef, undef, undef, undef, undef, undef, undef, undef, undef, undef, undef, undef, undef, undef, undef, undef, undef, undef, undef, undef, undef], defers := [] })
    ?assign ?body ?done ?stop
  case assign =>
    intro l x W K hK
    gi_wp2
    exact hK
  case body =>
    intro l p x W hi hlen
    have hnet := hi.net
    rw [HCS.out] at hnet
    have c0 : W.cell? ⟨bx, 0, none⟩ = some (.int .i64 (V : Int)) := hnet.cell 0
    have cr : W.cell? ⟨br, 0, none⟩ = some (.int .i64 0) := hi.res.cell 0
    have fr : W.frozen? ⟨br, 0, none⟩ = false := hi.res.frozen 0
    have crow : W.cell? ⟨bs, 0, none⟩ = some (.slice (some ⟨g, 0, none⟩) (V + 1) (V + 1)) := hi.row.cell 0
    have HI := Lib.hid hi
    have hpl := hi.defs.len
    rw [List.length_reverse] at hpl
    have hpl2 : p.length ≤ V := by omega
    clear hnet hlen hpl
    by_cases hb1 : x < 1
    · have HB1 := Lib.hid hb1
      clear hi
      gi_wp2
      refine ⟨(KeepsOthers.setCell _ _ _).from _, rfl, ⟨p, x, 5, rfl, HI.out.defs, .inl ⟨rfl, .inl HB1.out⟩, ?_⟩, HI.out.low.setCell (p := ⟨br, 0, none⟩) (by have := HSZ.out; simp; omega) _⟩
      exact HI.out.res.set_ 0 _
    · by_cases hb2 : (V : Int) < x
      · have HB2 := Lib.hid hb2
        have hb1' : 1 ≤ x := by omega
        clear hi hb1
        gi_wp2
        refine ⟨(KeepsOthers.setCell _ _ _).from _, rfl, ⟨p, x, 5, rfl, HI.out.defs, .inl ⟨rfl, .inr HB2.out⟩, ?_⟩, HI.out.low.setCell (p := ⟨br, 0, none⟩) (by have := HSZ.out; simp; omega) _⟩
        exact HI.out.res.set_ 0 _
      · have hno : ¬ (x < 1 ∨ (V : Int) < x) := by omega
        obtain ⟨xn, hxn⟩ : ∃ xn : Nat, x = xn := ⟨x.toNat, by omega⟩
        have hxV : xn < V + 1 := by omega
        have qs := hi.seen.cell hxV
        have fs := hi.seen.frozen xn
        have hx1 : 1 ≤ x := by omega
        have hx2 : x ≤ V := by omega
        have HNO := Lib.hid hno
        have HX1 := Lib.hid (And.intro hx1 hx2)
        unfold seenV at qs
        subst hxn
        clear hi hb1 hb2 hno
        by_cases hin : (xn : Int) ∈ p.reverse
        · have HIN := Lib.hid hin
          rw [decide_eq_true hin] at qs
          clear hin
          gi_wp2
          refine ⟨(KeepsOthers.setCell _ _ _).from _, rfl, ⟨p, (xn : Int), 6, rfl, HI.out.defs, .inr ⟨rfl, HNO.out, HIN.out⟩, ?_⟩, HI.out.low.setCell (p := ⟨br, 0, none⟩) (by have := HSZ.out; simp; omega) _⟩
          exact HI.out.res.set_ 0 _
        · have hdef := HI.out.defs.cons HX1.out.1 HX1.out.2 hin
          rw [decide_eq_false hin] at qs
          obtain ⟨m, hm⟩ : ∃ m : Nat, (V : Int) - p.length = (m : Int) := ⟨V - p.length, by omega⟩
          have hleft := HI.out.left
          rw [hm] at hleft
          have cl : W.cell? ⟨bl, 0, none⟩ = some (.int .i64 (m : Int)) := hleft.cell 0
          have fl : W.frozen? ⟨bl, 0, none⟩ = false := hleft.frozen 0
          have hgl : g ≠ bl := by have := HSZ.out; omega
          have hm1 : (m : Int) ≤ 2000 := by omega
          have HD := Lib.hid hdef
          have HLF := Lib.hid hleft
          have HMM := Lib.hid hm
          have HGL := Lib.hid hgl
          have cl2 : (W.setCell ⟨g, xn, none⟩ (.bool true)).cell? ⟨bl, 0, none⟩ = some (.int .i64 (m : Int)) := (Blk.far hleft (p := ⟨g, xn, none⟩) (fun e => hgl e.symm) (.bool true)).cell 0
          clear hin hdef hleft hm hgl
          gi_wp2
          refine ⟨((KeepsOthers.setCell _ _ _).trans (KeepsOthers.setCell _ _ _)).from _, ?_, ?_⟩
          · refine KpC.trans (B := W.setCell ⟨g, xn, none⟩ (.bool true)) ⟨(Below.refl _ _).setCell (by have := HSZ.out; simp; omega) _, fun k o hk _ hS => (Below.heap_setCell W ⟨g, xn, none⟩ _ k (fun e => hS (.inr (.inl e)))).trans hk⟩ ⟨(Below.refl _ _).setCell (by have := HSZ.out; simp; omega) _, fun k o hk _ hS => (Below.heap_setCell _ ⟨bl, 0, none⟩ _ k (fun e => hS (.inr (.inr e)))).trans hk⟩
          · refine ⟨by simpa using HD.out, ?_, ?_, ?_, ?_, ?_, ?_⟩
            · exact (HI.out.net.far (by have := HSZ.out; simp; omega) _).far (by have := HSZ.out; simp; omega) _
            · exact (HI.out.res.far (by have := HSZ.out; simp; omega) _).far (by have := HSZ.out; simp; omega) _
            · have h1 := (VBlk.set_ HI.out.seen xn (.bool true)).ext (f' := seenV (p ++ [(xn : Int)]).reverse) (fun i _ => by rw [List.reverse_append]; exact seenV_cons p.reverse rfl i)
              exact h1.far (p := ⟨bl, 0, none⟩) HGL.out _
            · exact (HI.out.row.far (by have := HSZ.out; simp; omega) _).far (by have := HSZ.out; simp; omega) _
            · have h1 := (Blk.far HLF.out (p := ⟨g, xn, none⟩) (fun e => HGL.out e.symm) (.bool true)).set_ 0 (.int .i64 ((m : Int) - 1))
              have e : (m : Int) - 1 = (V : Int) - (p ++ [(xn : Int)]).length := by have := HMM.out; simp; omega
              rw [← e]
              exact h1
            · exact (HI.out.low.setCell (by have := HSZ.out; simp; omega) _).setCell (by have := HSZ.out; simp; omega) _
  case done =>
    rintro D xs W hD rfl hi hK
    have hans : ans = if V ≤ (definedN d).length then 0 else 7 := by
      have h1 := definesN_app (V := (V : Int)) (l := definedN d) (r := []) (sn := []) (by simpa using hi.defs)
      rw [List.append_nil, List.append_nil] at h1
      rw [HA.out, h1, definesN_nil hi.defs, List.length_reverse, Int.toNat_natCast]
    have HANS := Lib.hid hans
    have cr : W.cell? ⟨br, 0, none⟩ = some (.int .i64 0) := hi.res.cell 0
    have fr : W.frozen? ⟨br, 0, none⟩ = false := hi.res.frozen 0
    have HI := Lib.hid hi
    have hpl := hi.defs.len
    rw [List.length_reverse] at hpl
    obtain ⟨m, hm⟩ : ∃ m : Nat, (V : Int) - (definedN d).length = (m : Int) := ⟨V - (definedN d).length, by omega⟩
    have hleft := hi.left
    rw [hm] at hleft
    have cl : W.cell? ⟨bl, 0, none⟩ = some (.int .i64 (m : Int)) := hleft.cell 0
    have HMM := Lib.hid hm
    have HEND : Hid (∀ code : Int, code = ans → (W.setCell ⟨br, 0, none⟩ (.int .i64 code)).heap[D]? = some (.deferred (some [])) ∧
        ((W.setCell ⟨br, 0, none⟩ (.int .i64 code)).putObj D (.deferred none)).cell? ⟨br, 0, none⟩ = some (.int .i64 code) ∧ Below w.heap.size w ((W.setCell ⟨br, 0, none⟩ (.int .i64 code)).putObj D (.deferred none))) := Lib.hid fun code _ => by
      have hK2 := (KeepsOthers.setCell W ⟨br, 0, none⟩ (.int .i64 code)).same D _ hK rfl
      exact ⟨hK2, cell_kept ((HI.out.res.set_ 0 (.int .i64 code)).cell 0) (grownBy_putObj' _ D (.deferred none)) (fun r e => by cases e; exact ⟨_, hK2, rfl⟩), (HI.out.low.setCell (p := ⟨br, 0, none⟩) (by have := HSZ.out; simp; omega) _).trans (belowPut (by have := HSZ.out; omega) hK2)⟩
    clear hi hleft hm hans hpl
    by_cases hm0 : 0 < (m : Int)
    · have hF : Hid (ans = 7) := Lib.hid (by rw [HANS.out, if_neg (by have := HMM.out; omega)])
      gi_wp2
      obtain ⟨hK2, hcr, hB⟩ := HEND.out 7 hF.out.symm
      refine ⟨by simp, .inl ⟨_, _, rfl, run_takeDeferred hK2, ?_⟩⟩
      refine ⟨.int .i64 7, by simp [results, Try.results47, go_sem, hcr], ?_, hB⟩
      rw [hF.out]
    · have hm0' : (m : Int) ≤ 0 := by omega
      have hF : Hid (ans = 0) := Lib.hid (by rw [HANS.out, if_pos (by have := HMM.out; omega)])
      clear hm0
      gi_wp2
      obtain ⟨hK2, hcr, hB⟩ := HEND.out 0 hF.out.symm
      refine ⟨by simp, .inl ⟨_, _, rfl, run_takeDeferred hK2, ?_⟩⟩
      refine ⟨.int .i64 0, by simp [results, Try.results47, go_sem, hcr], ?_, hB⟩
      rw [hF.out]
  case stop =>
    rintro D c p W hD hp hx hK
    obtain rfl := hx.jump
    have hb := hx.code hp
    rw [← HA.out] at hb
    have hcr : (W.putObj D (.deferred none)).cell? ⟨br, 0, none⟩ = some (.int .i64 ans) := cell_kept (hb.cell 0) (grownBy_putObj' _ D (.deferred none)) (fun r e => by cases e; exact ⟨_, hK, rfl⟩)
    have HB := Lib.hid (hx.low.trans (belowPut (o' := .deferred none) (by have := HSZ.out; omega) hK))
    clear hx hb
    gi_wp2
    refine ⟨by simp, .inl ⟨_, _, rfl, run_takeDeferred hK, ?_⟩⟩
    refine ⟨.int .i64 ans, by simp [results, Try.results47, go_sem, hcr], rfl, HB.out⟩
end Go.Proofs.Ytgnimegdgphlmaa
