import Derived.Test.YtihmmmodimionaaS
namespace Go.Proofs.Ytihmmmodimionaa.Lx
open Go.RowKit

theorem own_apart {w1 w2 : World} {b1 b2 n1 n2 s1 s2 : Nat} {t1 t2 : TypeId} {va vb : Value} {xs ys : List Value} (ha : w1.ownsRow b1 t1 s1 va n1 xs) (hb : w2.ownsRow b2 t2 s2 vb n2 ys) (h : w1.heap.size ≤ b2) : vb.ownBlock = none ∨ vb.ownBlock ≠ va.ownBlock := by
  cases hq : vb.ownBlock with
  | none => exact .inl rfl
  | some k =>
    right
    intro he
    have h1 := ha.lt k he.symm
    have h2 := hb.lt k hq
    omega

theorem cellB' {w w' : World} {a : Addr} {v : Value} (hb : Below w.heap.size w w') (h : w.cell? a = some v) (_h : 0 < w.heap.size) : w'.cell? a = some v := cellB hb h

set_option maxHeartbeats 1000000 in
set_option maxRecDepth 100000 in
theorem law_any (s : ByteArray) (w : World) (hlen : s.size ≤ maxLen) (m : Int) (hm : w.cell? ⟨0, 0, none⟩ = some (.int .i64 m)) :
    Calls Try.prog 3 #[.string s] w fun e w' => e = .returned (.bool true) ∧ Below w.heap.size w w' := by
  have HTK := hide (fun W hW => tokens_any s W hlen m hW)
  have HRF := hide (fun W => ref_any s W hlen)
  generalize (tokRes (T s)).1 = ts at *
  generalize (tokRes (T s)).2 = p at *
  obtain ⟨l, c, e⟩ := p
  have hee : (e == e) = true := by simp
  have hne : (e != e) = false := by simp
  have HM := hide hm
  have h00 := lt_of_cell hm
  simp only at h00
  clear hm hlen
  go_enter Try.func3, Try.ntmps3
  go_wp2_with fail
  refine (HTK.out _ HM.out).mono ?_; rintro e1 w1 ⟨va, bs, hba, rfl, hoa, hb1, hla⟩
  obtain ⟨A, cap, rfl, _⟩ := tokRow_own hoa
  have HOA := hide hoa
  have HB1 := hide hb1
  clear hoa hb1
  go_wp2_with fail
  refine (HRF.out _).mono ?_; rintro e2 w2 ⟨vb, bs', hbb, rfl, hob, hb2, hlb⟩
  obtain rfl : bs = bs' := tok_inj (hba.trans hbb.symm)
  have hp2 : PosR w2 w1.heap.size l c := heapB hb2 (heap_new w1 _)
  have HOA2 := hide (own_below (HOA.out.alloc _) hb2)
  have HB2 := hide (below_wide (HB1.out.alloc HB1.out.size _) hb2)
  have HOB := hide hob
  have HP2 := hide hp2
  have hs2 := hb2.size
  simp only [World.size_alloc] at hs2
  clear hob hb2 hp2
  go_wp2_with fail
  refine (same_any _ (.slice A bs.length cap) vb bs (tokRow_own (HOA2.out.alloc _)) (tokRow_own (HOB.out.alloc _)) hla).mono ?_; rintro e3 w3 ⟨rfl, hb3⟩
  have HP3 := hide (show PosR w3 w1.heap.size l c from heapB hb3 (heap_old HP2.out))
  have HQ3 := hide (show PosR w3 w2.heap.size l c from heapB hb3 (heap_new w2 _))
  have HOA3 := hide (own_below (HOA2.out.alloc _) hb3)
  have HOB3 := hide (own_below (HOB.out.alloc _) hb3)
  have HB3 := hide (below_wide (HB2.out.alloc HB2.out.size _) hb3)
  clear hb3
  have p0 := cell_heap (j := 0) HP3.out rfl
  have p1 := cell_heap (j := 1) HP3.out rfl
  have q0 := cell_heap (j := 0) HQ3.out rfl
  have q1 := cell_heap (j := 1) HQ3.out rfl
  go_wp2_with fail
  refine (same_pos _ _ _).mono ?_; rintro e4 w4 ⟨rfl, hb4⟩
  have HOA4 := hide (own_below HOA3.out hb4)
  have HOB4 := hide (own_below HOB3.out hb4)
  have HB4 := hide (below_wide HB3.out hb4)
  have HNE := hide (own_apart HOA.out HOB.out (by simp))
  have hg0 : some 0 ≠ (Value.slice A bs.length cap).ownBlock := fun h => by have := HOA.out.lt 0 h.symm; omega
  clear hb4 p0 p1 q0 q1 HP3 HQ3 HP2 HB3 HB2 HOA HOA2 HOA3 HOB3
  go_wp2_with fail
  go_loopw [9] (fun j wr => ∃ (i : Nat) (xs : List Value), i ≤ bs.length ∧ j = .int .i64 i ∧ wr.ownsRow w.heap.size 34 4 (.slice A bs.length cap) bs.length xs ∧ w4.grownBy wr (Value.slice A bs.length cap).ownBlock ∧ ∀ k, k < bs.length → ∃ b, xs[k * 4 + 1]? = some (.string b)) (fun j _ => bs.length - (intOf j).toNat)
  case atStart => exact ⟨0, _, Nat.zero_le _, rfl, HOA4.out, World.grownBy.refl _ _, fun k hk => ⟨_, (flat_at bs k hk).2.1⟩⟩
  case round =>
    obtain ⟨i, xs, hi, rfl, ho, hg, hx⟩ := hrel
    by_cases hlt : i < bs.length
    · obtain ⟨h0, h1⟩ | ⟨g, cap', cur, hv, h1, h2, h3, h4, h5, h6⟩ := ho.2
      · omega
      · obtain ⟨rfl, rfl⟩ : A = some ⟨g, 0, none⟩ ∧ cap = cap' := by simpa using hv
        clear hv
        obtain ⟨b, hb⟩ := hx i hlt
        have hc := ho.cellAt (i * 4 + 1) (by omega)
        rw [hb] at hc
        have hf := ho.frozenAt (i * 4 + 1)
        have hst := ho.stored (i * 4 + 1) (.string ⟨#[63]⟩)
        have HST := hide hst
        have HG := hide hg
        have HX := hide hx
        clear hst hg hx ho h1 h2 h4 h5 h6 hb
        go_wp2_with fail
        go_roundw
        case rel =>
          refine ⟨i + 1, _, by omega, by go_num, HST.out.1, ?_, fun k hk => ?_⟩
          · exact ⟨HST.out.2.os.trans HG.out.os, HST.out.2.tape.trans HG.out.tape, HST.out.2.output.trans HG.out.output, Nat.le_trans HG.out.size HST.out.2.size, fun q hq hne => (HST.out.2.block q (Nat.lt_of_lt_of_le hq HG.out.size) hne).trans (HG.out.block q hq hne)⟩
          · rw [List.getElem?_set]
            split
            · split
              · exact ⟨_, rfl⟩
              · obtain ⟨b, hb⟩ := HX.out k hk
                have := (List.getElem?_eq_some_iff.1 hb).1
                omega
            · exact HX.out k hk
        case measure => simp [intOf]; omega
    · have HG := hide hg
      have hm2 : wr.cell? ⟨0, 0, none⟩ = some (.int .i64 m) := hg.cell (cellB' HB4.out HM.out h00) hg0
      have HM2 := hide hm2
      have HOB5 := hide (HOB4.out.kept hg HNE.out)
      have HB5 := hide (HB4.out.grown hg HB4.out.size (fun k hk => (HOA4.out.lt k hk).1))
      clear hm2 hg ho hx
      go_wp2_with fail
      refine (HTK.out _ HM2.out).mono ?_; rintro e5 w5 ⟨va2, bs2, hba2, rfl, hoa5, hb5, hla5⟩
      obtain rfl : bs2 = bs := tok_inj (hba2.trans hba.symm)
      have HOA6 := hide hoa5
      have HOB6 := hide (own_below HOB5.out hb5)
      have HB6 := hide (below_wide HB5.out hb5)
      clear hoa5 hb5
      go_wp2_with fail
      refine (same_any _ va2 vb bs2 (tokRow_own HOA6.out) (tokRow_own HOB6.out) hla).mono ?_; rintro e6 w6 ⟨rfl, hb6⟩
      have HB7 := hide (below_wide HB6.out hb6)
      clear hb6
      go_wp2_with fail
      go_ret
      exact ⟨rfl, HB7.out⟩
end Go.Proofs.Ytihmmmodimionaa.Lx
