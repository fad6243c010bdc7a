import Derived.Test.YtihmmmodimionaaDoorLV
namespace Go.Proofs.YtihmmmodimionaaDoor.Lx
open Go.RowKit

theorem linesAt_own {w : World} {base : Nat} {t tw : TypeId} {v : Value} {bs : List BLn} (h : w.ownsRow base t 2 v bs.length (bs.flatMap BLn.cells)) (hi : ∀ x ∈ bs, WRow w base tw x) : LinesAt w v bs := ⟨vrow_own h, fun x hx => vrow_own (hi x hx)⟩
/-- the words' rows of some lines, whatever strings stand in them -/
def InnOk (w : World) (base : Nat) (t : TypeId) (bs : List BLn) : Prop :=
  ∀ x ∈ bs, ∃ ys, w.ownsRow base t 3 x.v x.ws.length ys ∧ ∀ k, k < x.ws.length → ∃ b, ys[k * 3]? = some (.string b)
theorem innOk_own {w : World} {base : Nat} {tw : TypeId} {bs : List BLn} (hi : ∀ x ∈ bs, WRow w base tw x) : InnOk w base tw bs := fun x hx => ⟨_, hi x hx, fun k hk => ⟨_, (flatW_at x.l x.ws k hk).1⟩⟩
theorem innOk_store {w : World} {base : Nat} {t : TypeId} {bs : List BLn} (h : InnOk w base t bs) (g j : Nat) (b : ByteArray) : InnOk (w.setCell ⟨g, j, none⟩ (.string b)) base t bs := by
  intro x hx
  obtain ⟨ys, ho, hs⟩ := h x hx
  rcases ho.2 with ⟨h1, h2⟩ | ⟨g', cap, cur, h1, _⟩
  · exact ⟨ys, ownsRow_setCell_other ho (by rw [h1]; simp [Value.ownBlock]) _, hs⟩
  · by_cases hg : g' = g
    · subst hg
      rw [h1] at ho ⊢
      refine ⟨ys.set j (.string b), (ho.stored j _).1, fun k hk => ?_⟩
      rw [List.getElem?_set]
      split
      · split
        · exact ⟨_, rfl⟩
        · obtain ⟨b', hb'⟩ := hs k hk
          have := (List.getElem?_eq_some_iff.1 hb').1
          omega
      · exact hs k hk
    · exact ⟨ys, ownsRow_setCell_other ho (by rw [h1]; simp [Value.ownBlock]; exact hg) _, hs⟩
/-- only the blocks between lo and hi may have turned -/
structure Mid (lo hi : Nat) (w w' : World) : Prop where
  os : w'.os = w.os
  tape : w'.tape = w.tape
  output : w'.output = w.output
  size : w.heap.size ≤ w'.heap.size
  block : ∀ k, k < w.heap.size → k < lo ∨ hi ≤ k → w'.heap[k]? = w.heap[k]?
theorem Mid.refl (lo hi : Nat) (w : World) : Mid lo hi w w := ⟨rfl, rfl, rfl, Nat.le_refl _, fun _ _ _ => rfl⟩
theorem Mid.store {lo hi : Nat} {a w : World} (h : Mid lo hi a w) {g : Nat} (h1 : lo ≤ g) (h2 : g < hi) (j : Nat) (u : Value) : Mid lo hi a (w.setCell ⟨g, j, none⟩ u) :=
  ⟨h.os, h.tape, h.output, by simpa [World.setCell] using h.size, fun k hk hr => (Below.heap_setCell w ⟨g, j, none⟩ u k (by show k ≠ g; omega)).trans (h.block k hk hr)⟩
theorem Mid.own {lo hi : Nat} {a w : World} (h : Mid lo hi a w) {base size n : Nat} {e : TypeId} {v : Value} {xs : List Value} (ho : a.ownsRow base e size v n xs) (hb : hi ≤ base) : w.ownsRow base e size v n xs := by
  refine ⟨ho.1, ?_⟩
  rcases ho.2 with h2 | ⟨g, cap, cur, h1, h2, h3, h4⟩
  · exact .inl h2
  · exact .inr ⟨g, cap, cur, h1, h2, by rw [h.block g (lt_heap h3) (.inr (by omega))]; exact h3, h4⟩
theorem Mid.below {lo hi : Nat} {a w : World} (h : Mid lo hi a w) (hl : lo ≤ a.heap.size) : Below lo a w := ⟨h.os, h.tape, h.output, h.size, fun k hk => h.block k (by omega) (.inl hk)⟩

/-- what stands while the words are turned -/
structure ST (w w1 w4 : World) (v : Value) (as_ : List BLn) (wr : World) : Prop where
  own : wr.ownsRow w.heap.size 35 2 v as_.length (as_.flatMap BLn.cells)
  inn : InnOk wr w.heap.size 37 as_
  mid : Mid w.heap.size w1.heap.size w4 wr
theorem ST.store {w w1 w4 : World} {v : Value} {as_ : List BLn} {wr : World} (h : ST w w1 w4 v as_ wr) {x : BLn} (hx : x ∈ as_) {g : Nat} (hg : x.v.ownBlock = some g) (h1 : w.heap.size ≤ g) (h2 : g < w1.heap.size) (j : Nat) (b : ByteArray) : ST w w1 w4 v as_ (wr.setCell ⟨g, j, none⟩ (.string b)) := by
  obtain ⟨ys, ho, _⟩ := h.inn x hx
  exact ⟨ownsRow_setCell_other h.own (fun he => own_types h.own ho (by decide) g he hg) _, innOk_store h.inn g j b, h.mid.store h1 h2 j _⟩

set_option maxRecDepth 100000 in
set_option maxHeartbeats 2000000 in
theorem llaw_any (s : ByteArray) (w : World) (hlen : s.size ≤ maxLen) (m : Int) (hm : w.cell? ⟨0, 0, none⟩ = some (.int .i64 m)) :
    Calls Tryd.prog 3 #[.string s] w fun e w' => e = .returned (.bool true) ∧ Below w.heap.size w w' := by
  have HLX := hide (fun W hW => lines_any s W hlen m hW)
  have HRF := hide (fun W => rlines_any s W hlen)
  generalize (linRes (T s)).1 = ts at *
  generalize (linRes (T s)).2 = p at *
  obtain ⟨l, c, e⟩ := p
  have hee : (e == e) = true := by simp
  have hne : (e != e) = false := by simp
  have HM := hide hm
  have h00 := lt_of_cell hm
  simp only at h00
  clear hm hlen
  go_enter Tryd.func3, Tryd.ntmps3
  go_wp2_with fail
  refine (HLX.out _ HM.out).mono ?_; rintro e1 w1 ⟨va, as_, hba, rfl, hoa, hia, hb1, hla, hwa⟩
  obtain ⟨A, cap, rfl⟩ := own_slice hoa
  have HOA := hide hoa
  have HIA := hide hia
  have HB1 := hide hb1
  clear hoa hia hb1
  go_wp2_with fail
  refine (HRF.out _).mono ?_; rintro e2 w2 ⟨vb, bs, hbb, rfl, hob, hib, hb2, hlb, hwb⟩
  have hp2 : PosR w2 w1.heap.size l c := heapB hb2 (heap_new w1 _)
  have HOA2 := hide (own_below (HOA.out.alloc _) hb2)
  have HIA2 := hide (fun x hx => own_below ((HIA.out x hx).alloc _) hb2)
  have HB2 := hide (below_wide (HB1.out.alloc HB1.out.size _) hb2)
  have HOB := hide hob
  have HIB := hide hib
  have HP2 := hide hp2
  have hs2 := hb2.size
  simp only [World.size_alloc] at hs2
  clear hob hib hb2 hp2
  have hab := hba.trans hbb.symm
  have HEQ := hide hab
  have HBA := hide hba
  clear hab hba hbb
  go_wp2_with fail
  refine (same_lines _ _ vb as_ bs (linesAt_own (HOA2.out.alloc _) (fun x hx => (HIA2.out x hx).alloc _)) (linesAt_own (HOB.out.alloc _) (fun x hx => (HIB.out x hx).alloc _)) HEQ.out hla (fun x hx => Nat.le_trans (hwa x hx) (by decide))).mono ?_; rintro e3 w3 ⟨rfl, hb3⟩
  have HP3 := hide (show PosR w3 w1.heap.size l c from heapB hb3 (heap_old HP2.out))
  have HQ3 := hide (show PosR w3 w2.heap.size l c from heapB hb3 (heap_new w2 _))
  have HOA3 := hide (own_below (HOA2.out.alloc _) hb3)
  have HIA3 := hide (fun x hx => own_below ((HIA2.out x hx).alloc _) hb3)
  have HOB3 := hide (own_below (HOB.out.alloc _) hb3)
  have HIB3 := hide (fun x hx => own_below ((HIB.out x hx).alloc _) hb3)
  have HB3 := hide (below_wide (HB2.out.alloc HB2.out.size _) hb3)
  clear hb3
  have p0 := cell_heap (j := 0) HP3.out rfl
  have p1 := cell_heap (j := 1) HP3.out rfl
  have q0 := cell_heap (j := 0) HQ3.out rfl
  have q1 := cell_heap (j := 1) HQ3.out rfl
  go_wp2_with fail
  refine (same_pos _ _ _).mono ?_; rintro e4 w4 ⟨rfl, hb4⟩
  have HOA4 := hide (own_below HOA3.out hb4)
  have HIA4 := hide (fun x hx => own_below (HIA3.out x hx) hb4)
  have HOB4 := hide (own_below HOB3.out hb4)
  have HIB4 := hide (fun x hx => own_below (HIB3.out x hx) hb4)
  have HB4 := hide (below_wide HB3.out hb4)
  clear hb4 p0 p1 q0 q1 HP3 HQ3 HP2 HB3 HB2 HOA2 HIA2 HOA3 HIA3 HOB3 HIB3
  go_wp2_with fail
  have HST := hide (show ST w w1 w4 (.slice A as_.length cap) as_ w4 from ⟨HOA4.out, innOk_own HIA4.out, Mid.refl _ _ _⟩)
  have HLT := hide (fun x hx g hg => (HIA.out x hx).lt g hg)
  have hs1 : w1.heap.size ≤ w2.heap.size := by omega
  clear HOA4 HIA4 HIA
  go_loopw [9] (fun j wr => ∃ i : Nat, i ≤ as_.length ∧ j = .int .i64 i ∧ ST w w1 w4 (.slice A as_.length cap) as_ wr) (fun j _ => as_.length - (intOf j).toNat)
  case atStart => exact ⟨0, Nat.zero_le _, rfl, HST.out⟩
  case round =>
    clear HST
    obtain ⟨i, hi, rfl, hst⟩ := hrel
    by_cases hlt : i < as_.length
    case neg =>
      have hmid := hst.mid
      have hbw4 := HB4.out.size
      have hbw1 := HB1.out.size
      have hm2 : wr.cell? ⟨0, 0, none⟩ = some (.int .i64 m) := by
        rw [((HB4.out.trans (hmid.below hbw4))).cell (p := ⟨0, 0, none⟩) h00]; exact HM.out
      have HM2 := hide hm2
      have HOB5 := hide (hmid.own HOB4.out (by simp))
      have HIB5 := hide (fun x hx => hmid.own (HIB4.out x hx) (by simp))
      have HB5 := hide (HB4.out.trans (hmid.below hbw4))
      clear hm2 hmid hst
      go_wp2_with fail
      refine (HLX.out _ HM2.out).mono ?_; rintro e5 w5 ⟨va2, as2, hba2, rfl, hoa5, hia5, hb5, hla5, hwa5⟩
      have HOA6 := hide hoa5
      have HIA6 := hide hia5
      have HOB6 := hide (own_below HOB5.out hb5)
      have HIB6 := hide (fun x hx => own_below (HIB5.out x hx) hb5)
      have HB6 := hide (below_wide HB5.out hb5)
      have HEQ2 := hide ((hba2.trans HBA.out.symm).trans HEQ.out)
      clear hoa5 hia5 hb5 hba2
      go_wp2_with fail
      refine (same_lines _ va2 vb as2 bs (linesAt_own HOA6.out HIA6.out) (linesAt_own HOB6.out HIB6.out) HEQ2.out hla5 (fun x hx => Nat.le_trans (hwa5 x hx) (by decide))).mono ?_; rintro e6 w6 ⟨rfl, hb6⟩
      have HB7 := hide (below_wide HB6.out hb6)
      clear hb6
      go_wp2_with fail
      go_ret
      exact ⟨rfl, HB7.out⟩
    obtain ⟨f0, f1⟩ := flatL_at as_ i hlt
    have hmem := List.getElem_mem hlt
    have hwx := hwa _ hmem
    generalize as_[i] = x at *
    obtain ⟨g, rfl⟩ : ∃ g, A = some ⟨g, 0, none⟩ := by
      rcases hst.own.2 with ⟨h1, h2⟩ | ⟨g, cap', cur, h1, _⟩
      · omega
      · exact ⟨g, by have : A = some ⟨g, 0, none⟩ ∧ cap = cap' := by simpa using h1
                     exact this.1⟩
    obtain ⟨ys, hoy, hsy⟩ := hst.inn x hmem
    obtain ⟨X, cx, hxv⟩ := own_slice hoy
    have HST := hide hst
    have c1 := hst.own.cellAt (i * 2 + 1) (by omega)
    rw [f1, hxv] at c1
    clear hst hoy hsy ys
    go_wp2_with fail
    go_loopw [10] (fun j wr => ∃ k : Nat, k ≤ x.ws.length ∧ j = .int .i64 k ∧ ST w w1 w4 (.slice (some ⟨g, 0, none⟩) as_.length cap) as_ wr) (fun j _ => x.ws.length - (intOf j).toNat)
    case atStart => exact ⟨0, Nat.zero_le _, rfl, HST.out⟩
    case round =>
      clear HST c1
      obtain ⟨k, hk, rfl, hst⟩ := hrel
      have c1 := hst.own.cellAt (i * 2 + 1) (by omega)
      rw [f1, hxv] at c1
      have HST := hide hst
      by_cases hkl : k < x.ws.length
      case neg =>
        clear hst
        go_wp2_with fail
        exact ⟨⟨i + 1, by omega, by go_num, HST.out⟩, by simp [intOf]; omega⟩
      obtain ⟨ys, hoy, hsy⟩ := hst.inn x hmem
      rw [hxv] at hoy
      obtain ⟨gx, rfl⟩ : ∃ g, X = some ⟨g, 0, none⟩ := by
        rcases hoy.2 with ⟨h1, h2⟩ | ⟨g, cap', cur, h1, _⟩
        · omega
        · exact ⟨g, by have : X = some ⟨g, 0, none⟩ ∧ cx = cap' := by simpa using h1
                       exact this.1⟩
      obtain ⟨b0, hb0⟩ := hsy k hkl
      have d0 := hoy.cellAt (k * 3) (by omega)
      rw [hb0] at d0
      have fd0 := hoy.frozenAt (k * 3)
      have hob : x.v.ownBlock = some gx := by rw [hxv]; rfl
      have HLG := hide (HLT.out x hmem gx hob)
      have HOBX := hide hob
      clear hst hoy hsy hb0 hob
      go_wp2_with fail
      go_roundw
      case rel => exact ⟨k + 1, by omega, by go_num, HST.out.store hmem HOBX.out HLG.out.1 HLG.out.2 _ _⟩
      case measure => simp [intOf]; omega
end Go.Proofs.YtihmmmodimionaaDoor.Lx
