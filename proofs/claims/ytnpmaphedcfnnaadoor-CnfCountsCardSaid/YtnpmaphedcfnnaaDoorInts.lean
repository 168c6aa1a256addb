/-
  Slices of numbers that are read: copies, and whether two are the same.
-/
import Derived.Test.YtnpmaphedcfnnaaDoorIntsB
import Derived.Deep.QuietTactic
import Derived.BigQuiet
import Derived.Lib.LazyBuf
namespace Go.Proofs.YtnpmaphedcfnnaaDoor
open Go.ChangeShapes Go.WideShapes Go.ChangeAt Go.RowKit
set_option linter.unusedVariables false

def sameB (xs ys : List Int) : Bool := decide (xs = ys)
theorem sameB_self (xs : List Int) : sameB xs xs = true := decide_eq_true rfl
theorem take_ext {xs ys : List Int} (hl : xs.length = ys.length) (h : ∀ j, j < xs.length → xs.getD j 0 = ys.getD j 0) : xs = ys := by
  apply List.ext_getElem hl
  intro i h1 h2
  have := h i h1
  simpa [List.getD, h1, h2] using this
def SameRel (xs ys : List Int) (k : Nat) (w wr : World) : Prop := (∀ j, j < k → xs.getD j 0 = ys.getD j 0) ∧ ∃ n, wr = w.drewN n
theorem r01_Same_len {w : World} {v u : Value} {xs ys : List Int} (h : Ints w v xs) (g : Ints w u ys) (hn : xs.length ≠ ys.length) :
    Calls Tryd.prog 42 #[v, u] w fun e w' => e = .returned (.bool (sameB xs ys)) ∧ w = w' := by
  obtain ⟨a, cap, rfl, -, -, -, -⟩ := h
  obtain ⟨b, cap2, rfl, -, -, -, -⟩ := g
  have hs : sameB xs ys = false := decide_eq_false fun e => hn (by rw [e])
  rw [hs]
  have hb : ((xs.length : Int) != (ys.length : Int)) = true := by rw [bne_iff_ne]; omega
  clear hs hn
  go_enter Tryd.func42, Tryd.ntmps42
  go_wp2
  go_ret
  exact ⟨rfl, rfl⟩
theorem SameRel.step {xs ys : List Int} {k : Nat} {w wr wr' : World} (h : SameRel xs ys k w wr) (he : xs.getD k 0 = ys.getD k 0) (hw : ∃ n, wr' = wr.drewN n) : SameRel xs ys (k + 1) w wr' := by
  obtain ⟨h1, n, rfl⟩ := h
  obtain ⟨m, rfl⟩ := hw
  refine ⟨fun j hj => ?_, n + m, by rw [World.drewN_drewN]⟩
  rcases Nat.lt_or_ge j k with h | h
  · exact h1 j h
  · obtain rfl : j = k := by omega
    exact he
set_option maxHeartbeats 400000 in
theorem r01_Same {w : World} {v u : Value} {xs ys : List Int} (h : Ints w v xs) (g : Ints w u ys) :
    Calls Tryd.prog 42 #[v, u] w fun e w' => e = .returned (.bool (sameB xs ys)) ∧ Quiet w w' := by
  by_cases hn : xs.length = ys.length
  · obtain ⟨a, cap, rfl, -, hc1, hc2, hv⟩ := h
    obtain ⟨b, cap2, rfl, -, -, -, hu⟩ := g
    have hm : xs.length ≤ 9223372036854775807 := Nat.le_trans hc1 hc2
    have HX := Lib.hid hv
    have HU := Lib.hid hu
    obtain ⟨n, hnn⟩ : ∃ n, n = xs.length := ⟨_, rfl⟩
    rw [← hn, ← hnn]
    rw [← hnn] at hm
    have HN := Lib.hid hnn
    have HL := Lib.hid hn
    clear hv hu hn hnn hc1 hc2
    go_enter Tryd.func42, Tryd.ntmps42
    go_wp2
    go_loopw [5] (fun i wr => ∃ k : Nat, k ≤ n ∧ i = .int .i64 k ∧ SameRel xs ys k w wr) (fun i _ => n - (intOf i).toNat)
    case atStart => exact ⟨0, Nat.zero_le _, rfl, fun _ h => absurd h (by omega), 0, rfl⟩
    case round =>
      obtain ⟨k, hk, rfl, hrel⟩ := hrel
      by_cases hlt : (k : Int) < (n : Int)
      · have hne : xs ≠ [] := fun e => by have := HN.out; rw [e] at this; simp at this; omega
        have hne' : ys ≠ [] := fun e => by have := HN.out; rw [HL.out, e] at this; simp at this; omega
        obtain ⟨b1, o1, rfl, hx⟩ := HX.out.resolve_left hne
        obtain ⟨b2, o2, rfl, hy⟩ := HU.out.resolve_left hne'
        have hkx := hx k (by have := HN.out; omega)
        have hky := hy k (by have := HN.out; have := HL.out; omega)
        obtain ⟨x, hxe⟩ : ∃ x, x = xs.getD k 0 := ⟨_, rfl⟩
        obtain ⟨y, hye⟩ : ∃ y, y = ys.getD k 0 := ⟨_, rfl⟩
        rw [← hxe] at hkx
        rw [← hye] at hky
        have hq : ∃ m, wr = w.drewN m := hrel.2
        have h1 : wr.cell? ⟨b1, o1 + k, none⟩ = some (.int .i64 x) := by obtain ⟨m, rfl⟩ := hq; exact hkx
        have h2 : wr.cell? ⟨b2, o2 + k, none⟩ = some (.int .i64 y) := by obtain ⟨m, rfl⟩ := hq; exact hky
        have HR := Lib.hid hrel
        have HXE := Lib.hid hxe
        have HYE := Lib.hid hye
        clear hx hy hkx hky hq hrel hxe hye hne hne'
        by_cases hxy : x = y
        · have hb : (x != y) = false := by rw [bne_eq_false_iff_eq]; exact hxy
          have HXY := Lib.hid hxy
          clear hxy
          go_wp2
          go_quiet (fail)
          go_wp2
          go_roundw
          case rel => exact ⟨k + 1, by omega, by go_num, HR.out.step (by rw [← HXE.out, ← HYE.out]; exact HXY.out) ⟨_, rfl⟩⟩
          case measure => simp [intOf]; omega
        · have hb : (x != y) = true := by rw [bne_iff_ne]; exact hxy
          have hs : sameB xs ys = false := decide_eq_false fun e => hxy (by rw [HXE.out, HYE.out, e])
          have HS := Lib.hid hs
          have hq : ∃ m, wr = w.drewN m := HR.out.2
          have HQ := Lib.hid hq
          clear hxy hq hs
          go_wp2
          go_quiet (fail)
          go_wp2
          go_ret
          refine ⟨by rw [HS.out]; rfl, ?_⟩
          obtain ⟨m, rfl⟩ := HQ.out
          exact ⟨_, World.drewN_drewN _ _ _⟩
      · have hs : sameB xs ys = true := decide_eq_true (take_ext HL.out (fun j hj => hrel.1 j (by have := HN.out; omega)))
        have HS := Lib.hid hs
        have HQ := Lib.hid hrel.2
        clear hs hrel
        go_wp2
        go_ret
        exact ⟨by rw [HS.out]; rfl, HQ.out⟩
  · exact (r01_Same_len h g hn).mono fun e w' ⟨h1, h2⟩ => ⟨h1, 0, h2.symm⟩

/-- 'append(s, x...)' from wherever x lies. -/
theorem wpList_appA {P : Program} {w : World} {ops : Array Oper} {rest : List Oper} {o : Oper} {a : Act} {Q : Exit → Act → World → Prop} (hgd : o.guard = none) (s x : Operand) (t : TypeId)
    (ho : o.op = .call { callee := .builtin .append, args := #[s, x], argTypes := #[t, t] })
    (e : TypeId) (z : Value) (size bytes : Nat) (ht : P.underlying t = some (.slice e)) (hinfo : (P.info? e).map (fun i => (i.zero, i.size, i.bytes)) = some (some z, size, bytes)) (hzs : z.cells.size = size) (hsz : 0 < size)
    (v : Value) (n : Nat) (xs : List Value) (hs : a.eval s = v) (hown : Row w e size v n xs) (ad : Addr) (m c : Nat) (news : List Value) (hx : a.eval x = .slice (some ad) m c) (hl : news.length = m * size) (hnews : ∀ j u, news[j]? = some u → w.cell? (ad.add j) = some u) (h1 : ∀ u ∈ news, u.oneCell' = true)
    (h63 : n + m ≤ maxLen) (hbytes : (n + m) * bytes ≤ 140737488355328)
    (h : ∀ v' w', AppPost w e size v (n + m) (xs ++ news) v' w' → wpList P ops Q rest (a.put o.dst v') w') : wpList P ops Q (o :: rest) a w := by
  obtain ⟨i0, hi, hz0, hz1, hz2⟩ := info_parts hinfo
  obtain ⟨v', w', hr, h2, h3, _, h5⟩ := run_append_own_at (P := P) w 0 t o.type e i0 z size bytes ht hi hz0 hz1 hz2 hzs hsz v n xs hown ad m c news hl hnews h1 h63 hbytes (Nat.zero_le _)
  refine wpList_plain hgd fun _ hK => ?_
  unfold Oper.wp execOp
  simp only [ho, resolve, invoke, builtin, Sem.run_bind, Sem.run_pure, Result.andThen_ok, List.map_toArray, List.map_cons, List.map_nil, hs, hx, hr]
  exact hK _ _ (h v' w' ⟨h2, Chg.of_grown h3 (fun k hk => hk), h5⟩)

theorem clone_nil (w : World) : Calls Tryd.prog 43 #[.slice none 0 0] w fun e w' => e = .returned (.slice none 0 0) ∧ w = w' := by
  have hb := fun W => Lib.run_eql_slice_nil (P := Tryd.prog) W 23 3 none 0 0 0 0 Tryd.underlying23
  go_enter Tryd.func43, Tryd.ntmps43
  go_wp2
  go_ret
  exact ⟨rfl, rfl⟩
def ClonePost (w : World) (xs : List Int) (u : Value) (w' : World) : Prop := Row w' 3 1 u xs.length (xs.map iv) ∧ (∀ k, u.ownBlock = some k → w.heap.size ≤ k) ∧ Below w.heap.size w w'
set_option maxHeartbeats 400000 in
theorem clone_some {w : World} {ad : Addr} {cap : Nat} {xs : List Int} (h : ∀ j u, (xs.map iv)[j]? = some u → w.cell? (ad.add j) = some u) (hs : xs.length ≤ 1099511627776) :
    Calls Tryd.prog 43 #[.slice (some ad) xs.length cap] w fun e w' => ∃ u, e = .returned u ∧ ClonePost w xs u w' := by
  have hb := fun W => Lib.run_eql_slice_nil (P := Tryd.prog) W 23 3 (some ad) xs.length cap 0 0 Tryd.underlying23
  have HH := Lib.hid h
  clear h
  go_enter Tryd.func43, Tryd.ntmps43
  go_wp2_with (at_builtin; refine wpList_appA rfl _ _ _ rfl 3 (.int .i64 0) 1 8 Tryd.underlying23 infoI rfl (by decide) (.slice (some ⟨w.heap.size, 0, none⟩) 0 0) 0 [] rfl ?ho ad xs.length cap (xs.map iv) rfl ?hl ?hn ?hs ?c1 ?c2 ?_)
  case ho => exact ⟨by simp, .inr ⟨w.heap.size, 0, #[], rfl, Nat.zero_le _, heap_alloc_new w _, Nat.le_refl _, by simp, by simp, by simp⟩⟩
  case hl => simp
  case hn =>
    intro j u hu
    have := HH.out j u hu
    exact (Below.cell ((Below.refl _ w).alloc (Nat.le_refl _) _) (World.block_lt_of_cell? w _ this)).trans this
  case hs => intro u hu; simp at hu; obtain ⟨x, -, rfl⟩ := hu; rfl
  case c1 => unfold maxLen; omega
  case c2 => omega
  intro v' w' hp
  have HP := Lib.hid hp
  clear hp
  go_wp2
  go_ret
  refine ⟨v', rfl, ?_⟩
  obtain ⟨h1, h2, h3⟩ := HP.out
  refine ⟨by simpa using h1, fun k hk => ?_, ?_⟩
  · rcases h3 with e | e
    · rw [e] at hk; simp [Value.ownBlock] at hk; omega
    · rw [e] at hk; simp at hk; omega
  · exact ((Below.refl _ w).alloc (Nat.le_refl _) _).trans (h2.below (by simp) (fun i hi => by simp [Value.ownBlock] at hi; omega))
theorem slices_Clone {w : World} {v : Value} {xs : List Int} (h : Ints w v xs) (hs : xs.length ≤ 1099511627776) :
    Calls Tryd.prog 43 #[v] w fun e w' => ∃ u, e = .returned u ∧ ClonePost w xs u w' := by
  obtain ⟨a, cap, rfl, h0, h1, h2, hv⟩ := h
  rcases a with _ | ad
  · rcases hv with rfl | ⟨b, off, h, -⟩
    · obtain rfl := h0 rfl
      exact (clone_nil w).mono fun e w' ⟨he, hw⟩ => ⟨_, he, by subst hw; exact ⟨World.ownsRow_nil _ _ _ _, fun k hk => by simp [Value.ownBlock] at hk, Below.refl _ _⟩⟩
    · cases h
  · refine clone_some (fun j u hu => ?_) hs
    rcases hv with rfl | ⟨b, off, h, hc⟩
    · simp at hu
    · injection h with h; subst h
      have e : (⟨b, off, none⟩ : Addr).add j = ⟨b, off + j, none⟩ := by unfold Addr.add; split <;> simp_all
      simp only [List.getElem?_map, Option.map_eq_some_iff] at hu
      obtain ⟨x, hx, rfl⟩ := hu
      have hj := (List.getElem?_eq_some_iff.1 hx).1
      rw [e, hc j hj]
      simp [List.getD, hx, iv]
end Go.Proofs.YtnpmaphedcfnnaaDoor
