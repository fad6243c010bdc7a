/- lists.Normal: the form of a row, in memory of the call's own. -/
import Derived.Test.YtopckpjhdbjmbaaDoorZL
import Derived.Test.YtopckpjhdbjmbaaDoorSG
import Derived.Test.YtopckpjhdbjmbaaDoorO
import Derived.Test.YtopckpjhdbjmbaaDoorZE
import Derived.Lib.OwnBridge
import Derived.Lib.AppendIntMem
import Derived.Lib.AppendZeros
namespace Go.Proofs.YtopckpjhdbjmbaaDoor.Ld
open Go.RowKit Go.Proofs.YtopckpjhdbjmbaaDoor.Lx

theorem infoU : (Tryd.prog.info? 23).map (fun i => (i.zero, i.size, i.bytes)) = some (some (.int .u32 0), 1, 4) := by kernel_rfl
abbrev encU : Int → Value := Value.int .u32
/-- a slice of numbers, nil let in -/
def Row (w : World) (A : Option Addr) (n c : Nat) (zs : List Int) : Prop :=
  zs.length = n ∧ ((A = none ∧ n = 0 ∧ c = 0) ∨ ∃ ad, A = some ad ∧ ∀ j u, zs[j]? = some u → w.cell? (ad.add j) = some (encU u))
theorem Row.below {w w' : World} {A : Option Addr} {n c : Nat} {zs : List Int} (h : Row w A n c zs) (hb : Below w.heap.size w w') : Row w' A n c zs := by
  obtain ⟨h1, h2 | ⟨ad, h2, h3⟩⟩ := h
  · exact ⟨h1, .inl h2⟩
  · exact ⟨h1, .inr ⟨ad, h2, fun j u hu => cellB hb (h3 j u hu)⟩⟩
theorem Row.src {w : World} {A : Option Addr} {n c : Nat} {zs : List Int} (h : Row w A n c zs) : Src w A n c 1 (zs.map encU) := by
  obtain ⟨h1, h2 | ⟨ad, h2, h3⟩⟩ := h
  · exact ⟨by simp [h1], .inl h2⟩
  · refine ⟨by simp [h1], .inr ⟨_, h2, fun j u hu => ?_⟩⟩
    rw [List.getElem?_map] at hu
    cases hz : zs[j]? with
    | none => rw [hz] at hu; cases hu
    | some x =>
      rw [hz] at hu
      simp only [Option.map_some, Option.some.injEq] at hu
      rw [← hu]
      exact h3 j x hz
theorem Row.us {w : World} {A : Option Addr} {n c : Nat} {zs : List Int} (h : Row w A n c zs) : Us w A n (fun i => zs.getD i 0) := by
  obtain ⟨h1, h2 | ⟨ad, h2, h3⟩⟩ := h
  · intro i hi; omega
  · intro i hi
    have hc := h3 i (zs.getD i 0) (by rw [List.getD_eq_getElem?_getD, List.getElem?_eq_getElem (by omega)]; rfl)
    obtain ⟨b, off, spot⟩ := ad
    have : spot = none := by simpa [Addr.add] using World.cell?_spot (h3 0 (zs.getD 0 0) (by rw [List.getD_eq_getElem?_getD, List.getElem?_eq_getElem (by omega)]; rfl))
    subst this
    exact ⟨b, off, h2, by rw [Addr.add_lit] at hc; exact hc⟩
theorem Row.own {w : World} {b n : Nat} {v : Value} {zs : List Int} (h : w.ownsRow b 23 1 v n (zs.map encU)) : ∃ A c, v = .slice A n c ∧ Row w A n c zs := by
  have hl : zs.length = n := by simpa using h.1
  rcases h.2 with ⟨rfl, rfl⟩ | ⟨g, cap, cur, rfl, h1, h2, h3, h4, h5, h6⟩
  · exact ⟨none, 0, rfl, hl, .inl ⟨rfl, rfl, rfl⟩⟩
  · refine ⟨_, _, rfl, hl, .inr ⟨⟨g, 0, none⟩, rfl, fun j u hu => ?_⟩⟩
    have hj : j < n := by
      rcases Nat.lt_or_ge j n with h' | h'
      · exact h'
      · rw [List.getElem?_eq_none (by omega)] at hu; cases hu
    rw [Addr.add_lit, Nat.zero_add]
    refine cell_heap h2 ?_
    have e : (cur.toList.take (n * 1))[j]? = (zs.map encU)[j]? := by rw [h6]
    rw [List.getElem?_take, if_pos (by omega), Array.getElem?_toList, List.getElem?_map, hu] at e
    exact e
/-- a row of numbers in memory of the call's own -/
def UOut (l : List Int) (w : World) (e : Ending) (w' : World) : Prop := ∃ v, e = .returned v ∧ w'.ownsRow w.heap.size 23 1 v l.length (l.map encU) ∧ Below w.heap.size w w'
theorem hasI1 : ∃ i, Tryd.prog.info? 23 = some i ∧ i.zero = some (.int .u32 0) ∧ i.size = 1 ∧ i.bytes = 4 := by
  have hi := infoU
  cases h : Tryd.prog.info? 23 with
  | none => rw [h] at hi; cases hi
  | some i =>
    rw [h] at hi
    simp only [Option.map_some, Option.some.injEq, Prod.mk.injEq] at hi
    exact ⟨i, rfl, hi⟩
theorem own_nil {w : World} {b size n : Nat} {e : TypeId} {v : Value} {xs : List Value} (h : w.ownsRow b e size v n xs) (hv : v = .slice none 0 0) : n = 0 := by
  subst hv
  rcases h.2 with ⟨_, h'⟩ | ⟨g, cap, cur, h', _⟩
  · exact h'
  · cases h'
/-- what an append that grows has made: a row of its own -/
theorem own_grown {w : World} {base n old : Nat} {e : TypeId} {z : Value} (hz : z.cells.size = 1) {l : List Value} (hl : l.length = n) (hn : n ≤ maxLen) (hb : base ≤ w.heap.size) (row : Option Nat) :
    (w.drew.alloc (.cells (l.toArray ++ Builtin.zeroCells z.cells (grownCap w n old e - n)) e)).ownsRow base e 1 (.slice (some ⟨w.heap.size, 0, none⟩) n (grownCap w n old e)) n l ∧
    w.grownBy (w.drew.alloc (.cells (l.toArray ++ Builtin.zeroCells z.cells (grownCap w n old e - n)) e)) row := by
  have hge := grownCap_ge w n old e
  refine ⟨⟨by omega, .inr ⟨w.heap.size, _, _, rfl, hb, heap_alloc_new w.drew _, hge, grownCap_le_maxLen w n old e hn, ?_, ?_⟩⟩, ⟨rfl, rfl, rfl, by simp, fun k hk _ => heap_alloc_old w.drew _ hk⟩⟩
  · rw [Array.size_append, size_zeroCells, hz, List.size_toArray, hl]; omega
  · rw [Nat.mul_one, Array.toList_append, ← hl]; exact List.take_left
/-- append to a row of the call's own, one cell each: of whatever length, as long as the model's growth stays within its room; where there is room the row stays where it is -/
theorem app_fit {P : Program} {w : World} {ops : Array Oper} {rest : List Oper} {o : Oper} {a : Act} {Q : Exit → Act → World → Prop} (hgd : o.guard = none) (s x : Operand) (t : TypeId)
    (ho : o.op = .call { callee := .builtin .append, args := #[s, x], argTypes := #[t, t] })
    (base : Nat) (e : TypeId) (i : TypeInfo) (z : Value) (ht : P.underlying t = some (.slice e)) (hi : P.info? e = some i) (hz : i.zero = some z)
    (hsize : i.size = 1) (hzs : z.cells.size = 1)
    (v : Value) (n : Nat) (xs : List Value) (hs : a.eval s = v) (hown : w.ownsRow base e 1 v n xs)
    (A : Option Addr) (m c : Nat) (news : List Value) (hx : a.eval x = .slice A m c) (hsrc : Src w A m c 1 news) (h1 : ∀ u ∈ news, u.oneCell' = true)
    (h63 : n + m ≤ maxLen) (hfit : ∀ B k, v = .slice B n k → k < n + m → Builtin.nextslicecap (n + m) k * i.bytes ≤ 281474976710656) (hbase : base ≤ w.heap.size)
    (h : ∀ v' w', w'.ownsRow base e 1 v' (n + m) (xs ++ news) → w.grownBy w' v.ownBlock → (∀ B k, v = .slice B n k → n + m ≤ k → v' = .slice B (n + m) k) → wpList P ops Q rest (a.put o.dst v') w') : wpList P ops Q (o :: rest) a w := by
  obtain ⟨hl, ⟨rfl, rfl, rfl⟩ | ⟨ad, rfl, hc⟩⟩ := hsrc
  · have hn : news = [] := List.eq_nil_of_length_eq_zero (by simpa using hl)
    subst hn
    exact wpList_append_own_none hgd s x t ho base e i 1 ht hi v n xs hs hown hx (h v w (by simpa using hown) (World.grownBy.refl w _) (fun B k hv _ => hv))
  · have hl' : news.length = m * i.size := by rw [hsize]; exact hl
    have hlm : news.length = m := by omega
    have hxl : xs.length = n := by have := hown.1; omega
    have h63' := h63
    unfold maxLen at h63'
    rcases hown.2 with ⟨hv, hn0⟩ | ⟨g, cap, cur, hv, hbg, hg, hnc, hcm, hcs, htake⟩
    · subst hn0
      have hxs : xs = [] := List.eq_nil_of_length_eq_zero hxl
      subst hxs
      by_cases hm : m = 0
      · subst hm
        have hnn : news = [] := List.eq_nil_of_length_eq_zero hlm
        subst hnn
        refine Lib.wpList_append_run w hgd s x t t ho _ _ hs hx v w ?_ (h v w (by simpa using hown) (World.grownBy.refl w _) (fun B k hv _ => hv))
        subst hv
        simp [Builtin.append_, run_underlying ht, sizeOf, typeInfo, hi, Builtin.lenOf, Builtin.firstCells, loadCells, loadCellsFrom]
      · have hr := run_append_nil (P := P) w t o.type e i z ht hi hz ad m c news hl' hc (by omega) (by omega) (by
          have := hfit none 0 hv (by omega)
          rw [Nat.zero_add, nextslicecap_zero (by omega)] at this
          exact this)
        have hgr := own_grown (w := w) (base := base) (old := 0) (e := e) hzs hlm (by omega) hbase v.ownBlock
        rw [hv] at hs hgr h
        refine Lib.wpList_append_run w hgd s x t t ho _ _ hs hx _ _ hr (h _ _ (by simpa using hgr.1) hgr.2 (fun B k hv hk => ?_))
        injection hv with _ _ hv
        omega
    · by_cases hroom : n + m ≤ cap
      · have hr := run_append_room (P := P) w t o.type e i ht hi g n cap cur hg ad m c news hl' hc h1 hroom (by rw [hsize]; omega)
        rw [hsize] at hr
        rw [hv] at hs h
        refine Lib.wpList_append_run w hgd s x t t ho _ _ hs hx _ _ hr (h _ _ ⟨by rw [List.length_append]; omega, .inr ⟨g, cap, _, rfl, hbg, setRow_heap w g cur _ e _ hg, hroom, hcm, ?_, ?_⟩⟩ ⟨rfl, rfl, rfl, by simp, fun k _ hk => setRow_other w g k _ (fun e => hk (by simp [Value.ownBlock, e]))⟩ (fun B k hv _ => ?_))
        · simp only [List.size_toArray, List.length_append, List.length_take, List.length_drop, Array.length_toList]
          omega
        · rw [htake, Nat.mul_one, show n + m = (xs ++ news).length by rw [List.length_append]; omega]
          exact List.take_left
        · injection hv with e1 _ e2
          subst e1 e2
          rfl
      · have hr := run_append_grow (P := P) w t o.type e i z ht hi hz ⟨g, 0, none⟩ n cap xs (by rw [hsize]; exact hown.1) (hown.cells (g := g) (by rw [hv]; rfl)) ad m c news hl' hc (by omega) (by omega) (hfit _ cap hv (by omega))
        have hgr := own_grown (w := w) (base := base) (old := cap) (e := e) hzs (l := xs ++ news) (n := n + m) (by rw [List.length_append]; omega) h63 hbase v.ownBlock
        rw [hv] at hs hgr h
        rw [show xs.toArray ++ news.toArray = (xs ++ news).toArray by simp] at hr
        refine Lib.wpList_append_run w hgd s x t t ho _ _ hs hx _ _ hr (h _ _ hgr.1 hgr.2 (fun B k hv hk => ?_))
        injection hv with _ _ hv
        omega
set_option maxRecDepth 100000 in
theorem clone_any (A : Option Addr) (n c : Nat) (zs : List Int) (w : World) (hn : n ≤ 70368744177664) (h : Row w A n c zs) :
    Calls Tryd.prog 21 #[.slice A n c] w fun e w' => ∃ v, e = .returned v ∧ w'.ownsRow w.heap.size 23 1 v n (zs.map encU) ∧ (v = .slice none 0 0 → n = 0) ∧ Below w.heap.size w w' := by
  obtain ⟨i1, hi1, iz1, is1, ib1⟩ := hasI1
  cases A with
  | none =>
    obtain ⟨hl, ⟨_, rfl, rfl⟩ | ⟨ad, h', _⟩⟩ := h
    · refine (Tryd.slices_Clone_nil 0 0 w).mono ?_
      rintro e w' ⟨rfl, rfl⟩
      have : zs = [] := List.eq_nil_of_length_eq_zero hl
      subst this
      exact ⟨_, rfl, ⟨rfl, .inl ⟨rfl, rfl⟩⟩, fun _ => rfl, Below.refl _ _⟩
    · cases h'
  | some ad =>
    have b1 := bel_one w (.cells #[] 23)
    have HB1 := hide b1
    have SA := hide (h.below b1).src
    have o1 : (w.alloc (.cells #[] 23)).ownsRow w.heap.size 23 1 (.slice (some ⟨w.heap.size, 0, none⟩) 0 0) 0 [] := World.ownsRow_made w #[] 0 (Nat.le_refl _) (Nat.zero_le _) (by simp)
    have HO1 := hide o1
    have q22 : ∀ w, (binOp .eql 22 (.slice (some ad) n c) (.slice none 0 0)).run Tryd.prog w = .ok (.bool false) w := fun w => Lib.run_eql_slice_nil w _ _ (some ad) n c 0 0 Tryd.underlying22
    clear h b1 o1
    go_enter Tryd.func21, Tryd.ntmps21
    go_wp2_with (at_builtin; refine app_fit rfl (.tmp 5) (.tmp 6) 22 rfl w.heap.size 23 i1 _ Tryd.underlying22 hi1 iz1 is1 rfl _ 0 [] rfl HO1.out (some ad) n c _ rfl SA.out ?ones ?c63 ?cby ?cbase ?_)
    case ones => simp [Value.oneCell']
    case c63 => unfold maxLen; omega
    case cby =>
      intro B k hv hk
      injection hv with _ _ hv
      subst hv
      rw [nextslicecap_zero hk, ib1]
      omega
    case cbase => exact HB1.out.size
    intro v1 w1 hown1 hgrow1 _
    have HBx := hide (HB1.out.grown hgrow1 HB1.out.size (fun k hk => (HO1.out.lt _ hk).1))
    try simp only [Nat.zero_add, List.nil_append] at hown1
    have HO := hide hown1
    clear hown1 hgrow1
    obtain ⟨A1, c1, rfl⟩ := own_slice HO.out
    go_wp2_with fail
    go_ret
    exact ⟨_, rfl, HO.out, own_nil HO.out, HBx.out⟩

theorem compact_small (A : Option Addr) (n c : Nat) (w : World) (hn : n < 2) :
    Calls Tryd.prog 23 #[.slice A n c] w fun e w' => e = .returned (.slice A n c) ∧ w = w' := by
  have h2 : decide ((n : Int) < 2) = true := by simp; omega
  go_enter Tryd.func23, Tryd.ntmps23
  go_wp2_with fail
  go_ret
  exact ⟨rfl, rfl⟩
theorem oneU : OneCell encU := fun _ => rfl

theorem own_ahead {w : World} {base size n q : Nat} {e : TypeId} {v : Value} {xs : List Value} {os : Array Obj} (h : w.ownsRow base e size v n xs) : (Sort.grow (Sort.ahead w q) os).ownsRow base e size v n xs :=
  own_below h (Lib.below_grow _ w (Nat.le_refl _) q os)
theorem own_grow {w : World} {base size n : Nat} {e : TypeId} {v : Value} {xs : List Value} {os : Array Obj} (h : w.ownsRow base e size v n xs) : (Sort.grow w os).ownsRow base e size v n xs :=
  own_ahead (q := 0) h

set_option maxHeartbeats 1000000 in
theorem normal_any (A : Option Addr) (n c : Nat) (zs : List Int) (w : World) (hn : n ≤ 70368744177664) (h : Row w A n c zs) :
    Calls Tryd.prog 6 #[.slice A n c] w (UOut (normL zs) w) := by
  have HC := hide (clone_any A n c zs w hn h)
  have hl : zs.length = n := h.1
  clear h
  go_enter Tryd.func6, Tryd.ntmps6
  go_wp2_with fail
  refine HC.out.mono ?_; rintro e w1 ⟨v, rfl, hown, hv, hb⟩
  have HV := hide hv
  clear hv
  rcases hown.2 with ⟨rfl, hn0⟩ | ⟨g, cap, cur, rfl, g1, g2, g3, g4, g5, g6⟩
  · subst hn0
    have : zs = [] := List.eq_nil_of_length_eq_zero hl
    subst this
    have HS := hide (fun W => Go.Proofs.YtopckpjhdbjmbaaDoor.Us.u_Sort_int_nil none 0 W)
    have HK := hide (fun W => compact_small none 0 0 W (by omega))
    clear hown
    go_wp2_with fail
    refine (HS.out _).mono ?_; rintro e w2 ⟨rfl, rfl⟩
    go_wp2_with fail
    refine (HK.out _).mono ?_; rintro e w3 ⟨rfl, rfl⟩
    go_wp2_with fail
    go_ret
    exact ⟨_, rfl, ⟨by simp, .inl ⟨rfl, Nat.le_zero.1 (norm_len [])⟩⟩, hb⟩
  · obtain ⟨g', cap', e1, e2, e3, e4, e5, e6, e7⟩ := Lib.holds_of_ownsRow hown (by intro e; cases e)
    injection e1 with e1 _ ec
    injection e1 with e1
    injection e1 with e1
    subst e1 ec
    have HS := hide (Go.Proofs.YtopckpjhdbjmbaaDoor.Us.u_slices_Sort g 0 cap zs w1 e7 e3 (by omega))
    have HB := hide hb
    have HO := hide hown
    rw [hl] at HS
    have hs : (zs.mergeSort fun x y => decide (x ≤ y)).length = n := by rw [sort_len, hl]
    clear hb hown e7 g2 g5 g6
    go_wp2_with fail
    refine HS.out.mono ?_; rintro e w2 ⟨rfl, m, os, hw2⟩
    have hown2 : w2.ownsRow w.heap.size 23 1 (.slice (some ⟨g, 0, none⟩) n cap) n ((zs.mergeSort fun x y => decide (x ≤ y)).map encU) := by
      have := Lib.ownsRow_putRow (q := m) HO.out hs (Nat.le_refl n)
      rw [List.take_of_length_le (by omega)] at this
      rw [hw2]
      exact own_grow this
    have hb2 : Below w.heap.size w w2 := by
      rw [hw2]
      exact (Lib.below_putRow HB.out e2).trans ((Lib.below_grow _ _ (Nat.le_refl _) 0 os).mono (by
        have := HB.out.size
        simpa [Sort.putRow, Sort.mapBlock, Sort.ahead] using this))
    obtain ⟨_, _, f1, f2, f3, f4, f5, f6, f7⟩ := Lib.holds_of_ownsRow hown2 (by intro e; cases e)
    injection f1 with f1 _ fc
    injection f1 with f1
    injection f1 with f1
    subst f1 fc
    have hsz : (zs.mergeSort fun x y => decide (x ≤ y)).toArray.size = n := by simpa using hs
    have HK := AnyE.slices_Compact Tryd.compactU encU oneU (.intD _ _ _) (.intD _ _ _) 0 Tryd.zeroValue23 g 0 cap _ w2 f7 (by rw [hsz]; unfold maxLen at e5; omega) (by rw [hsz]; omega)
    rw [hsz] at HK
    have HK2 := hide HK
    have HO2 := hide hown2
    have HB2 := hide hb2
    clear HK hown2 hb2 hw2 f7
    go_wp2_with fail
    refine HK2.out.mono ?_; rintro e w3 ⟨rfl, q, hw3⟩
    have HW3 := hide hw3
    clear hw3
    go_wp2_with fail
    go_ret
    have e9 : Lib.compactUpTo (zs.mergeSort fun x y => decide (x ≤ y)).toArray n = normL zs := by unfold normL Lib.compact; rw [hs]
    have hlen : (normL zs).length ≤ n := by have := norm_len zs; omega
    rw [e9] at HW3
    refine ⟨_, by rw [e9], ?_, ?_⟩
    · have := Lib.ownsRow_putRow (q := q) (ys := normL zs ++ List.replicate (n - (normL zs).length) 0) HO2.out (by simp; omega) hlen
      rw [HW3.out]
      simpa using this
    · rw [HW3.out]
      exact Lib.below_putRow HB2.out e2
end Go.Proofs.YtopckpjhdbjmbaaDoor.Ld
