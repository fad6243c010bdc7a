/- write: what it lays in the builder (printed by gen_ty.py). -/
import Derived.Test.YtihmmmodimionaaTYP
import Derived.Test.YtihmmmodimionaaTX
import Derived.Test.YtihmmmodimionaaTC
namespace Go.Proofs.Ytihmmmodimionaa.Tr
open Go.RowKit Go.Proofs.Ytihmmmodimionaa Go.Proofs.Ytihmmmodimionaa.Lx

abbrev Bld (Bx b : Nat) (l : List UInt8) (w : World) : Prop := Lib.IsBuilderF 84 5 Bx b (Lib.byteCells l) w
theorem ownsF_below {w w' : World} {base n size : Nat} {e : TypeId} {v : Value} {xs : List Value} (h : w.ownsRowF base e size v n xs) (hb : Below w.heap.size w w') : w'.ownsRowF base e size v n xs := h.kept (row := none) ⟨hb.os, hb.tape, hb.output, hb.size, fun i hi _ => hb.block i hi⟩ (by
  cases hv : v.ownBlock with
  | none => exact .inl rfl
  | some g => exact .inr (fun e => by cases e))
theorem Bld.below {Bx b : Nat} {l : List UInt8} {w w' : World} (h : Bld Bx b l w) (hb : Below w.heap.size w w') : Bld Bx b l w' := by
  rcases h with ⟨h1, v, h2, h3, h4⟩ | ⟨h1, v, h2, h3, h4⟩
  · exact .inl ⟨h1, v, heapB hb h2, ownsF_below h3 hb, h4⟩
  · exact .inr ⟨h1, v, heapB hb h2, ownsF_below h3 hb, h4⟩
theorem Bld.lt {Bx b : Nat} {l : List UInt8} {w : World} (h : Bld Bx b l w) : b < w.heap.size := by
  rcases h with ⟨h1, v, h2, h3, h4⟩ | ⟨h1, v, h2, h3, h4⟩ <;> exact lt_heap h2
theorem wstr_any {Bx b : Nat} {l : List UInt8} (s : ByteArray) {w : World} (h : Bld Bx b l w) (hlen : l.length + s.size ≤ 140737488355328) (hB : Bx ≤ w.heap.size) :
    Calls Try.prog 66 #[.pointer (some ⟨b, 0, none⟩), .string s] w fun e w' => e = .returned (.tuple #[.int .i64 s.size, .nilIface]) ∧ Bld Bx b (l ++ T s) w' ∧ Below Bx w w' ∧ Lib.OthersKept 5 (some b) w w' := by
  refine (Any.Builder_WriteString_k { Try.lays156 with } Try.Builder_Extra_156 Bx b (Lib.byteCells l) s w h (by rw [Lib.byteCells_length]; exact hlen) hB).mono ?_
  rintro e w' ⟨rfl, h1, h2, h3⟩
  refine ⟨rfl, .inr ?_, h2, h3⟩
  have e : Lib.byteCells (l ++ T s) = Lib.byteCells l ++ Lib.strCells s := by simp [Lib.byteCells, Lib.strCells, T]
  rw [e]
  exact h1
theorem others_row {b k : Nat} {w w' : World} {cs : Array Value} {t : TypeId} {fz : Nat × Nat} (h : Lib.OthersKept 5 (some b) w w') (hk : w.heap[k]? = some (.cells cs t fz)) (hb : k ≠ b) (ht : t ≠ 5) : w'.heap[k]? = some (.cells cs t fz) :=
  h k _ hk (fun e => by injection e with e; exact hb e) (fun c fz' e => by injection e with _ e _; exact ht e)
theorem below_lo {B : Nat} {w x y : World} (h : Below B w x) (h2 : Below x.heap.size x y) (hs : B ≤ x.heap.size) : Below B w y :=
  ⟨h2.os.trans h.os, h2.tape.trans h.tape, h2.output.trans h.output, Nat.le_trans h.size h2.size, fun i hi => (h2.block i (Nat.lt_of_lt_of_le hi hs)).trans (h.block i hi)⟩
theorem below_two {B : Nat} {w x y : World} (h : Below B w x) (h2 : Below B x y) : Below B w y :=
  ⟨h2.os.trans h.os, h2.tape.trans h.tape, h2.output.trans h.output, Nat.le_trans h.size h2.size, fun i hi => (h2.block i hi).trans (h.block i hi)⟩
theorem cell_lo {B : Nat} {w x : World} (h : Below B w x) {a : Addr} {v : Value} (hb : a.block < B) (hc : w.cell? a = some v) : x.cell? a = some v := (cell_block (h.block _ hb)).trans hc
theorem own_belwt {x x' : World} {base n size : Nat} {e : TypeId} {v : Value} {xs : List Value} (h : x.ownsRow base e size v n xs) (hb : Below x.heap.size x x') : x'.ownsRow base e size v n xs := h.kept (row := none) ⟨hb.os, hb.tape, hb.output, hb.size, fun i hi _ => hb.block i hi⟩ (by
  cases hv : v.ownBlock with
  | none => exact .inl rfl
  | some g => exact .inr (fun e => by cases e))
theorem own_some' {w : World} {base n : Nat} {e : TypeId} {v : Value} {xs : List Value} {size : Nat} (h : w.ownsRow base e size v n xs) (hn : 1 ≤ n) : ∃ g c, v = .slice (some ⟨g, 0, none⟩) n c ∧ base ≤ g ∧ g < w.heap.size := by
  have hl := h.lt
  rcases h.2 with ⟨h1, h2⟩ | ⟨g, cap, cur, h1, h2⟩
  · omega
  · subst h1
    exact ⟨g, cap, rfl, hl g rfl⟩
theorem own_cells' {w : World} {base n g c : Nat} {e : TypeId} {xs : List Value} {size : Nat} (h : w.ownsRow base e size (.slice (some ⟨g, 0, none⟩) n c) n xs) : ∀ j x, xs[j]? = some x → w.cell? ((⟨g, 0, none⟩ : Addr).add j) = some x := by
  intro j x hj
  rcases h.2 with ⟨h1, _⟩ | ⟨g', cap, cur, h1, _, h3, _, _, _, h5⟩
  · cases h1
  · injection h1 with h1
    injection h1 with h1
    injection h1 with h1
    subst h1
    rw [Addr.add_lit]
    refine cell_heap h3 ?_
    have hl : j < n * size := by
      have := (List.getElem?_eq_some_iff.1 hj).1
      rw [h.1] at this
      exact this
    rw [← h5, List.getElem?_take_of_lt hl] at hj
    simpa using hj
theorem own_capq {w : World} {base size n c : Nat} {A : Option Addr} {e : TypeId} {xs : List Value} (h : w.ownsRow base e size (.slice A n c) n xs) : n ≤ c := by
  rcases h.2 with ⟨h1, h2⟩ | ⟨g, cap, cur, h1, _, _, h4, h5, _⟩
  · cases h1; exact Nat.le_refl _
  · cases h1; exact h4
theorem map_data (qs : List (List UInt8)) : (qs.map fun q => (⟨q.toArray⟩ : ByteArray)).map (·.data.toList) = qs := by
  rw [List.map_map]
  conv => rhs; rw [← List.map_id qs]
  exact List.map_congr_left (fun q _ => rfl)
theorem T_append (a b : ByteArray) : T (a ++ b) = T a ++ T b := by simp [T, ByteArray.data_append]
/-- what write hands back -/
def WrOut (Bx b : Nat) (l : List UInt8) (r : Option (List UInt8)) (w : World) (e : Ending) (w' : World) : Prop := Below Bx w w' ∧ match r with
  | some o => e = .returned (.bool true) ∧ Bld Bx b (l ++ o) w'
  | none => e = .returned (.bool false) ∧ ∃ l', Bld Bx b l' w'
/-- write, at the head of a round -/
structure WL (Bx b : Nat) (l : List UInt8) (w wr : World) (d : Nat) (F : Fo) (i : Nat) (R : Fo) (o : List UInt8) (xs : List Value) (D : Nat → Prop) : Prop where
  bl : Below Bx w wr
  bd : Bld Bx b (l ++ o) wr
  fo : FoV w D R (xs.drop (i * 4))
  len : i + R.len = F.len
  nodes : R.nodes ≤ F.nodes
  eq : writeF d F = pre o (writeF d R)
  wt : (l ++ o).length + wtF R ≤ 4398046511104
  wb : WB R
/-- .. in the loop over the words -/
structure WI (w1 wk : World) (va : Value) (qs : List (List UInt8)) (ws : List ByteArray) (k : Nat) : Prop where
  bl : Below w1.heap.size w1 wk
  own : wk.ownsRow w1.heap.size 9 1 va qs.length (qs.map fun q => Value.string ⟨q.toArray⟩)
  eq : quotesT ws = preQ qs (quotesT (ws.drop k))
  len : qs.length = k
theorem drop_fo {w : World} {D : Nat → Prop} {ws : List ByteArray} {ps : List (Int × Int)} {blk : Bool} {K R : Fo} {xs : List Value} {i : Nat} (h : FoV w D (.cons ws ps blk K R) (xs.drop (i * 4))) :
    ∃ vw vp A c ys, xs[i * 4]? = some vw ∧ xs[i * 4 + 1]? = some vp ∧ xs[i * 4 + 2]? = some (.bool blk) ∧ xs[i * 4 + 3]? = some (.slice A K.len c) ∧ StrV w D vw ws ∧ PosV w D vp ps ∧ Src w A K.len c 4 ys ∧ (∀ a, A = some a → D a.block) ∧ FoV w D K ys ∧ FoV w D R (xs.drop ((i + 1) * 4)) := by
  obtain ⟨vw, vp, A, c, ys, xs', e, h1, h2, h3, h4, h5, h6⟩ := h
  have g : ∀ j, xs[i * 4 + j]? = (vw :: vp :: .bool blk :: .slice A K.len c :: xs')[j]? := fun j => by rw [← e, List.getElem?_drop]
  refine ⟨vw, vp, A, c, ys, g 0, g 1, g 2, g 3, h1, h2, h3, h4, h5, ?_⟩
  have : xs.drop ((i + 1) * 4) = xs' := by
    rw [show (i + 1) * 4 = i * 4 + 4 by omega, ← List.drop_drop, e]; rfl
  rw [this]
  exact h6
set_option maxHeartbeats 8000000 in
set_option maxRecDepth 100000 in
theorem write_any (Bx b : Nat) (m : Int) : ∀ (n : Nat) (F : Fo), F.nodes = n → ∀ (d : Nat) (A : Option Addr) (c : Nat) (xs : List Value) (l : List UInt8) (D : Nat → Prop) (w : World), Src w A F.len c 4 xs → FoV w D F xs → (∀ q, D q → q < Bx) → (∀ a, A = some a → a.block < Bx) → Bld Bx b l w → Bx ≤ w.heap.size → d ≤ 32 → l.length + wtF F ≤ 4398046511104 → WB F → 0 < Bx → w.cell? ⟨0, 0, none⟩ = some (.int .i64 m) →
    Calls Try.prog 36 #[.pointer (some ⟨b, 0, none⟩), .slice A F.len c, .int .i64 d] w (WrOut Bx b l (writeF d F) w) := by
  intro n
  induction n using Nat.strongRecOn with
  | _ n ih =>
  intro F hn d A c xs l D w hs hf hD hA hb hBx hd hwt hwb hB0 hm
  obtain ⟨si, sz0, sz, ss, sb⟩ := info_parts infoS
  have HIH := hide ih
  have HS := hide hs
  have HST := hide (show WL Bx b l w w d F 0 F [] xs D from ⟨Below.refl _ _, by simpa using hb, by simpa using hf, by simp, Nat.le_refl _, (pre_nil _).symm, by simpa using hwt, hwb⟩)
  have hlF := len_wt F
  have hFl : F.len ≤ 4398046511104 := by omega
  have HD := hide hD
  have HA := hide hA
  have HM := hide hm
  have HN := hide hn
  clear hs hf hD hA hb hwt hwb hm ih hn hlF
  go_enter Try.func36, Try.ntmps36
  go_wp2_with fail
  go_loopw [17] (fun j wr => ∃ (i : Nat) (R : Fo) (o : List UInt8), j = .int .i64 i ∧ WL Bx b l w wr d F i R o xs D) (fun j _ => F.len - (intOf j).toNat)
  case atStart => exact ⟨0, F, [], rfl, HST.out⟩
  case round =>
    clear HST
    obtain ⟨i, R, o, rfl, hX⟩ := hrel
    have HX := hide hX
    clear hX
    cases R with
    | nil =>
      have hi : i = F.len := by have := HX.out.len; simpa [Fo.len] using this
      have d1 : decide (i < F.len) = false := decide_eq_false (by omega)
      have d1' : decide ((i : Int) < (F.len : Int)) = false := decide_eq_false (by omega)
      clear hi
      go_wp2_with fail
      go_ret
      have he := HX.out.eq
      have e : writeF d F = some o := by rw [he, writeF]; simp [pre]
      rw [e]
      exact ⟨HX.out.bl, rfl, HX.out.bd⟩
    | cons ws ps blk K R =>
      have hlen : i + (R.len + 1) = F.len := HX.out.len
      have d1 : decide (i < F.len) = true := decide_eq_true (by omega)
      have d1' : decide ((i : Int) < (F.len : Int)) = true := decide_eq_true (by omega)
      have d2 : ((i : Int) < (F.len : Int)) := by omega
      obtain ⟨vw, vp, Ak, ck, ys, g0, g1, g2, g3, hvw, hvp, hks, hkA, hkF, hRF⟩ := drop_fo HX.out.fo
      obtain ⟨hsl, ⟨h1, h2, _⟩ | ⟨ad, rfl, hsc⟩⟩ := HS.out
      · omega
      · have hc0 := hsc _ _ g0
        have hc1 := hsc _ _ g1
        have hc2 := hsc _ _ g2
        have hc3 := hsc _ _ g3
        have hadB := HA.out ad rfl
        have hsp : ad.spot = none := by
          obtain ⟨x0, hx0⟩ : ∃ x0, xs[0]? = some x0 := ⟨xs[0]'(by rw [hsl]; omega), List.getElem?_eq_getElem _⟩
          exact World.cell?_spot (hsc 0 x0 hx0)
        obtain ⟨ab, ao, sp⟩ := ad
        cases hsp
        rw [Addr.add_lit] at hc0 hc1 hc2 hc3
        have c0 := cell_lo HX.out.bl (a := ⟨ab, ao + i * 4, none⟩) hadB hc0
        have c1 := cell_lo HX.out.bl (a := ⟨ab, ao + i * 4 + 1, none⟩) hadB (by rw [Nat.add_assoc]; exact hc1)
        have c2 := cell_lo HX.out.bl (a := ⟨ab, ao + i * 4 + 2, none⟩) hadB (by rw [Nat.add_assoc]; exact hc2)
        have c3 := cell_lo HX.out.bl (a := ⟨ab, ao + i * 4 + 3, none⟩) hadB (by rw [Nat.add_assoc]; exact hc3)
        obtain ⟨Aw, cw, rfl, hws, hwB⟩ := hvw
        obtain ⟨Ap, cp, rfl, _, _⟩ := hvp
        have HKS := hide hks
        have HKA := hide hkA
        have HKF := hide hkF
        have HRF := hide hRF
        have HWS := hide hws
        have HWB := hide hwB
        have hno : Fo.nodes (.cons ws ps blk K R) = K.nodes + R.nodes + 1 := rfl
        have HNO := hide (show K.nodes < n ∧ R.nodes ≤ F.nodes from by have h1 := HX.out.nodes; have h2 := HN.out; omega)
        have HWT := hide (show (l ++ o).length + (wsW ws + 300 + wtF K + wtF R) ≤ 4398046511104 from HX.out.wt)
        have HWW := hide (show (∀ w ∈ ws, w.size < 4294967281) ∧ WB K ∧ WB R from HX.out.wb)
        have HLEN := hide hlen
        have hwl : ws.length ≤ wsW ws := by
          have : ∀ l : List ByteArray, l.length ≤ wsW l := fun l => by
            induction l with
            | nil => exact Nat.le_refl _
            | cons a l ih => simp only [wsW, List.length_cons]; omega
          exact this ws
        have hkl : K.len ≤ 4398046511104 := by have h1 := len_wt K; have h2 := HWT.out; omega
        have hwl2 : ws.length ≤ 4398046511104 := by have h2 := HWT.out; omega
        clear hsl hsc g0 g1 g2 g3 hks hkA hkF hRF hws hwB hno hwl hc0 hc1 hc2 hc3 hadB hlen
        rcases Nat.eq_zero_or_pos ws.length with hw0 | hw0
        · have e0 : (ws.length == 0) = true := by simpa using hw0
          have e0' : ((ws.length : Int) == 0) = true := beq_it (by omega)
          have HE := hide (show writeF d F = none from by rw [HX.out.eq, write_bad (.inl hw0)]; rfl)
          have HB1 := hide (fun o => below_lo HX.out.bl (bel_one wr o) (Nat.le_trans hBx HX.out.bl.size))
          have HBD := hide (fun o => HX.out.bd.below (bel_one wr o))
          clear hw0
          go_wp2_with fail
          (try simp only [Exit.inBlock, Exit.then])
          go_ret
          rw [HE.out]
          exact ⟨HB1.out _, rfl, _, HBD.out _⟩
        · have e0 : (ws.length == 0) = false := beq_eq_false_iff_ne.2 (by omega)
          have e0' : ((ws.length : Int) == 0) = false := beq_if (by omega)
          cases blk with
          | false =>
            rcases Nat.eq_zero_or_pos K.len with hk0 | hk0
            · have e1 : decide (0 < K.len) = false := decide_eq_false (by omega)
              have e1' : decide ((0 : Int) < (K.len : Int)) = false := decide_eq_false (by omega)
              have HK0 := hide hk0
              clear hk0
              have HB1 := hide (below_lo HX.out.bl (bel_one wr (Obj.cells #[.slice Aw ws.length cw, .slice Ap ps.length cp, .bool false, .slice Ak K.len ck] 44)) (Nat.le_trans hBx HX.out.bl.size))
              have HBD := hide (HX.out.bd.below (bel_one wr (Obj.cells #[.slice Aw ws.length cw, .slice Ap ps.length cp, .bool false, .slice Ak K.len ck] 44)))
              have HNB := hide (heap_new wr (Obj.cells #[.slice Aw ws.length cw, .slice Ap ps.length cp, .bool false, .slice Ak K.len ck] 44))
              have HSZ := hide (show Bx ≤ wr.heap.size ∧ b < wr.heap.size from ⟨Nat.le_trans hBx HX.out.bl.size, HX.out.bd.lt⟩)
              have HW1 := hide (show (wr.alloc (Obj.cells #[.slice Aw ws.length cw, .slice Ap ps.length cp, .bool false, .slice Ak K.len ck] 44)).heap.size = wr.heap.size + 1 from by simp)
              have HI0 := hide (show WI (wr.alloc (Obj.cells #[.slice Aw ws.length cw, .slice Ap ps.length cp, .bool false, .slice Ak K.len ck] 44)) (wr.alloc (Obj.cells #[.slice Aw ws.length cw, .slice Ap ps.length cp, .bool false, .slice Ak K.len ck] 44)) (.slice none 0 0) [] ws 0 from ⟨Below.refl _ _, ⟨rfl, .inl ⟨rfl, rfl⟩⟩, (preQ_nil _).symm, rfl⟩)
              have HWQ := hide hw0
              clear hw0
              go_wp2_with fail
              generalize wr.alloc (Obj.cells #[.slice Aw ws.length cw, .slice Ap ps.length cp, .bool false, .slice Ak K.len ck] 44) = w1 at *
              go_loopw [9, 47] (fun va j wk => ∃ (k : Nat) (qs : List (List UInt8)), j = .int .i64 k ∧ k ≤ ws.length ∧ WI w1 wk va qs ws k) (fun _ j _ => ws.length - (intOf j).toNat)
              case atStart => exact ⟨0, [], rfl, Nat.zero_le _, HI0.out⟩
              case round =>
                clear HI0
                obtain ⟨k, qs, rfl, hk, hI⟩ := hrel
                obtain rfl : qs.length = k := hI.len
                obtain ⟨Av, cv, rfl⟩ := own_slice hI.own
                have HI := hide hI
                have HBK := hide (below_lo HB1.out hI.bl (by have h1 := HSZ.out.1; have h2 := HW1.out; omega))
                have HDK := hide (HBD.out.below hI.bl)
                have HSK := hide (show Bx ≤ wr.heap.size from by have h1 := HSZ.out.1; have h2 := HW1.out; have h3 := hI.bl.size; omega)
                clear hI
                rcases Nat.lt_or_ge qs.length ws.length with hlt | hge
                · obtain ⟨hsl, ⟨_, h2, _⟩ | ⟨ad, rfl, hsc⟩⟩ := HWS.out
                  · omega
                  · have hcw := hsc qs.length (.string ws[qs.length]) (by rw [List.getElem?_map, List.getElem?_eq_getElem hlt]; rfl)
                    have hsp : ad.spot = none := World.cell?_spot (hsc 0 (.string (ws[0]'(by omega))) (by rw [List.getElem?_map, List.getElem?_eq_getElem]; rfl))
                    have hadB := HD.out _ (HWB.out ad rfl)
                    obtain ⟨wb, wo, sp⟩ := ad
                    cases hsp
                    rw [Addr.add_lit] at hcw
                    have q0 := cell_lo HBK.out (a := ⟨wb, wo + qs.length, none⟩) hadB hcw
                    have d3 : decide (qs.length < ws.length) = true := decide_eq_true hlt
                    have d3' : decide ((qs.length : Int) < (ws.length : Int)) = true := decide_eq_true (by omega)
                    have d4 : ((qs.length : Int) < (ws.length : Int)) := by omega
                    have HQ := hide (quoted_any ws[qs.length] wr (HWW.out.1 _ (List.getElem_mem hlt)) m (cell_lo HBK.out (a := ⟨0, 0, none⟩) hB0 HM.out))
                    have HDR := hide (show ws.drop qs.length = ws[qs.length] :: ws.drop (qs.length + 1) from List.drop_eq_getElem_cons hlt)
                    have HEQ := hide (show quotesT ws = preQ qs (quotesT (ws[qs.length] :: ws.drop (qs.length + 1))) from by rw [← HDR.out]; exact HI.out.eq)
                    clear hsl hsc hcw hadB
                    generalize ws[qs.length] = wk0 at *
                    cases hq : quoteT (T wk0) with
                    | none =>
                      have hqv : quoteV (T wk0) = .tuple #[.string ⟨#[]⟩, .bool false] := by unfold quoteV; rw [hq]
                      rw [hqv] at HQ
                      have HE := hide (show writeF d F = none from by rw [HX.out.eq, write_noq (quotes_none HEQ.out hq)]; rfl)
                      clear hqv hq
                      go_wp2_with fail
                      refine HQ.out.mono ?_
                      rintro e w2 ⟨rfl, hb2⟩
                      have HB2 := hide (below_lo HBK.out hb2 HSK.out)
                      have HD2 := hide (HDK.out.below hb2)
                      clear hb2
                      go_wp2_with fail
                      (try simp only [Exit.inBlock, Exit.then])
                      go_ret
                      rw [HE.out]
                      exact ⟨HB2.out, rfl, _, HD2.out⟩
                    | some q =>
                      have hqv : quoteV (T wk0) = .tuple #[.string ⟨q.toArray⟩, .bool true] := by unfold quoteV; rw [hq]
                      rw [hqv] at HQ
                      have HE := hide (quotes_some HEQ.out hq)
                      clear hqv hq
                      go_wp2_with fail
                      refine HQ.out.mono ?_
                      rintro e w2 ⟨rfl, hb2⟩
                      have HB2 := hide (below_lo HI.out.bl hb2 HI.out.bl.size)
                      have HO2 := hide ((own_belwt HI.out.own hb2).alloc (Obj.cells #[.string ⟨q.toArray⟩] 9))
                      have HR2 := hide (row_at (heap_new w2 (Obj.cells #[.string ⟨q.toArray⟩] 9)))
                      have HS2 := hide hb2.size
                      clear hb2
                      go_wp2_with (at_builtin; go_must (refine wpList_append_own_at _ rfl (.tmp 58) (.tmp 60) 41 rfl w1.heap.size 9 si _ 1 16 Try.underlying41 sz0 sz ss sb rfl (by decide) _ _ _ rfl HO2.out ⟨w2.heap.size, 0, none⟩ 1 1 [.string ⟨q.toArray⟩] rfl rfl HR2.out ?ones ?c63 ?cby ?cbase ?_))
                      case ones => simp [Value.oneCell']
                      case c63 => unfold maxLen; omega
                      case cby => omega
                      case cbase => have h1 := HI.out.bl.size; have h2 := HS2.out; simp; omega
                      intro v' w4 hown hgr _ hk2
                      have HI4 := hide (show WI w1 w4 v' (qs ++ [q]) ws (qs.length + 1) from ⟨(HB2.out.alloc HB2.out.size _).grown hgr (by have := HB2.out.size; simp; omega) (fun g e => (HO2.out.lt g e).1), by rw [List.length_append, List.map_append]; exact hown, HE.out, by simp⟩)
                      have HLT := hide hlt
                      clear hown hgr hk2
                      go_wp2_with fail
                      go_roundw
                      case rel => exact ⟨qs.length + 1, _, by go_num, HLT.out, HI4.out⟩
                      case measure => have := HLT.out; simp [intOf]; omega
                · have hkk : qs.length = ws.length := by omega
                  have d3 : decide (qs.length < ws.length) = false := decide_eq_false (by omega)
                  have d3' : decide ((qs.length : Int) < (ws.length : Int)) = false := decide_eq_false (by omega)
                  have hqs : quotesT ws = some qs := by
                    rw [HI.out.eq, hkk, List.drop_length, quotesT]; simp [preQ]
                  have HQS := hide hqs
                  obtain ⟨gq, cq, hvq, hgq1, hgq2⟩ := own_some' HI.out.own (by have h1 := HWQ.out; have h2 := HI.out.len; omega)
                  simp only [Value.slice.injEq, true_and] at hvq
                  obtain ⟨rfl, rfl⟩ := hvq
                  have HJL := hide (Nat.le_trans (join_le qs) (quotes_len ws qs hqs).2)
                  have HN0 := hide (heapB HI.out.bl HNB.out)
                  have HQL := hide hk
                  have HQC := hide (own_cells' HI.out.own)
                  have HRP := hide (Try.strings_Repeat ⟨#[32, 32, 32, 32]⟩ d wr (by omega) (by show 4 * d ≤ _; omega))
                  have hre : (Lib.repeatL (⟨#[32, 32, 32, 32]⟩ : ByteArray).data.toList d) = indT d := repeat_ind d
                  rw [hre] at HRP
                  generalize hbi : (⟨(indT d).toArray⟩ : ByteArray) = bi at HRP
                  have hTi : T bi = indT d := by rw [← hbi]; rfl
                  have hsi : bi.size ≤ 128 := by rw [← T_len, hTi]; simp [indT]; omega
                  have HTI := hide hTi
                  clear hbi hTi
                  have HCV := hide (own_capq HI.out.own)
                  clear hqs hre hkk hk hge
                  go_wp2_with fail
                  refine HRP.out.mono ?_
                  rintro e w5 ⟨rfl, hb5⟩
                  have HB5 := hide (below_lo HBK.out hb5 HSK.out)
                  have HD5 := hide (HDK.out.below hb5)
                  have HN5 := hide (heapB hb5 HN0.out)
                  have HS5 := hide (Nat.le_trans HSK.out hb5.size)
                  have HJ := hide (Try.strings_Join gq 0 cv (qs.map fun q => (⟨q.toArray⟩ : ByteArray)) ⟨#[32]⟩ w5 (by
                    intro j x hj
                    rw [List.getElem?_map] at hj
                    obtain ⟨q, hq, rfl⟩ := Option.map_eq_some_iff.1 hj
                    have := HQC.out j (.string ⟨q.toArray⟩) (by rw [List.getElem?_map, hq]; rfl)
                    rw [Addr.add_lit] at this
                    exact cellB hb5 this) (Nat.lt_of_lt_of_le hgq2 hb5.size) (by rw [List.length_map]; have h1 := HQL.out; omega) (by rw [List.length_map]; exact HCV.out) (by
                    have h1 := HJL.out
                    have h2 := HWT.out
                    rw [map_data]
                    show (Lib.join qs [32]).length ≤ _
                    omega))
                  rw [map_data, show (⟨#[32]⟩ : ByteArray).data.toList = [32] from rfl, List.length_map] at HJ
                  generalize hbj : (⟨(Lib.join qs [32]).toArray⟩ : ByteArray) = bj at HJ
                  have hTj : T bj = Lib.join qs [32] := by rw [← hbj]; rfl
                  have hsj : bj.size ≤ wsW ws := by rw [← T_len, hTj]; exact HJL.out
                  have hww : wsW ws ≤ 4398046511104 := by have := HWT.out; omega
                  have HTJ := hide hTj
                  clear hbj hTj
                  clear hb5 HRP
                  go_wp2_with fail
                  refine HJ.out.mono ?_
                  rintro e w6 ⟨rfl, hb6⟩
                  have HB6 := hide (below_lo HB5.out hb6 HS5.out)
                  have HD6 := hide (HD5.out.below hb6)
                  have HN6 := hide (heapB hb6 HN5.out)
                  have HS6 := hide (Nat.le_trans HS5.out hb6.size)
                  have HWR := hide (wstr_any (bi ++ bj) HD6.out (by rw [ByteArray.size_append]; have h2 := HWT.out; omega) HS6.out)
                  rw [T_append, HTI.out, HTJ.out] at HWR
                  clear hb6 HJ
                  go_wp2_with fail
                  refine HWR.out.mono ?_
                  rintro e w7 ⟨rfl, hd7, hb7, ho7⟩
                  have HB7 := hide (below_two HB6.out hb7)
                  have HN7 := hide (others_row ho7 HN6.out (by have := HSZ.out.2; omega) (by decide))
                  have n0 := cell_heap (j := 0) HN7.out rfl
                  have n1 := cell_heap (j := 1) HN7.out rfl
                  have n2 := cell_heap (j := 2) HN7.out rfl
                  have n3 := cell_heap (j := 3) HN7.out rfl
                  have HS7 := hide (Nat.le_trans HS6.out hb7.size)
                  have HD7 := hide hd7
                  have HJ2 := hide (show (Lib.join qs [32]).length ≤ wsW ws ∧ (indT d).length ≤ 128 from ⟨HJL.out, by simp [indT]; omega⟩)
                  clear hd7 hb7 ho7 HWR
                  have HW8 := hide (wstr_any (⟨#[59, 10]⟩ : ByteArray) HD7.out (by have h1 := HJ2.out; have h2 := HWT.out; show _ + 2 ≤ _; simp at h2 ⊢; omega) HS7.out)
                  go_wp2_with fail
                  refine HW8.out.mono ?_
                  rintro e w8 ⟨rfl, hd8, hb8, ho8⟩
                  have HF := hide (show WL Bx b l w w8 d F (i + 1) R (o ++ (indT d ++ Lib.join qs [32] ++ [59, 10])) xs D from ⟨below_two HB7.out hb8, by simpa [T] using hd8, HRF.out, by have := HLEN.out; omega, HNO.out.2, by rw [HX.out.eq, write_leaf (by have := HWQ.out; omega) HK0.out HQS.out, pre_pre], by
                    have h1 := HJ2.out
                    have h2 := HWT.out
                    simp at h2 ⊢
                    omega, HWW.out.2.2⟩)
                  clear hd8 hb8 ho8
                  go_wp2_with fail
                  go_roundw
                  case rel => exact ⟨i + 1, R, _, by go_num, HF.out⟩
                  case measure => have := HLEN.out; simp [intOf]; omega
            · have e1 : decide (0 < K.len) = true := decide_eq_true (by omega)
              have e1' : decide ((0 : Int) < (K.len : Int)) = true := decide_eq_true (by omega)
              have HE := hide (show writeF d F = none from by rw [HX.out.eq, write_bad (.inr (.inl ⟨rfl, by omega⟩))]; rfl)
              have HB1 := hide (fun o => below_lo HX.out.bl (bel_one wr o) (Nat.le_trans hBx HX.out.bl.size))
              have HBD := hide (fun o => HX.out.bd.below (bel_one wr o))
              clear hk0 hw0
              go_wp2_with fail
              (try simp only [Exit.inBlock, Exit.then])
              go_ret
              rw [HE.out]
              exact ⟨HB1.out _, rfl, _, HBD.out _⟩
          | true =>
            rcases Nat.lt_or_ge d 32 with hd0 | hd0
            · have e1 : decide (32 ≤ d) = false := decide_eq_false (by omega)
              have e1' : decide ((32 : Int) ≤ (d : Int)) = false := decide_eq_false (by omega)
              have HD0 := hide hd0
              clear hd0
              have HB1 := hide (below_lo HX.out.bl (bel_one wr (Obj.cells #[.slice Aw ws.length cw, .slice Ap ps.length cp, .bool true, .slice Ak K.len ck] 44)) (Nat.le_trans hBx HX.out.bl.size))
              have HBD := hide (HX.out.bd.below (bel_one wr (Obj.cells #[.slice Aw ws.length cw, .slice Ap ps.length cp, .bool true, .slice Ak K.len ck] 44)))
              have HNB := hide (heap_new wr (Obj.cells #[.slice Aw ws.length cw, .slice Ap ps.length cp, .bool true, .slice Ak K.len ck] 44))
              have HSZ := hide (show Bx ≤ wr.heap.size ∧ b < wr.heap.size from ⟨Nat.le_trans hBx HX.out.bl.size, HX.out.bd.lt⟩)
              have HW1 := hide (show (wr.alloc (Obj.cells #[.slice Aw ws.length cw, .slice Ap ps.length cp, .bool true, .slice Ak K.len ck] 44)).heap.size = wr.heap.size + 1 from by simp)
              have HI0 := hide (show WI (wr.alloc (Obj.cells #[.slice Aw ws.length cw, .slice Ap ps.length cp, .bool true, .slice Ak K.len ck] 44)) (wr.alloc (Obj.cells #[.slice Aw ws.length cw, .slice Ap ps.length cp, .bool true, .slice Ak K.len ck] 44)) (.slice none 0 0) [] ws 0 from ⟨Below.refl _ _, ⟨rfl, .inl ⟨rfl, rfl⟩⟩, (preQ_nil _).symm, rfl⟩)
              have HWQ := hide hw0
              clear hw0
              go_wp2_with fail
              generalize wr.alloc (Obj.cells #[.slice Aw ws.length cw, .slice Ap ps.length cp, .bool true, .slice Ak K.len ck] 44) = w1 at *
              go_loopw [9, 47] (fun va j wk => ∃ (k : Nat) (qs : List (List UInt8)), j = .int .i64 k ∧ k ≤ ws.length ∧ WI w1 wk va qs ws k) (fun _ j _ => ws.length - (intOf j).toNat)
              case atStart => exact ⟨0, [], rfl, Nat.zero_le _, HI0.out⟩
              case round =>
                clear HI0
                obtain ⟨k, qs, rfl, hk, hI⟩ := hrel
                obtain rfl : qs.length = k := hI.len
                obtain ⟨Av, cv, rfl⟩ := own_slice hI.own
                have HI := hide hI
                have HBK := hide (below_lo HB1.out hI.bl (by have h1 := HSZ.out.1; have h2 := HW1.out; omega))
                have HDK := hide (HBD.out.below hI.bl)
                have HSK := hide (show Bx ≤ wr.heap.size from by have h1 := HSZ.out.1; have h2 := HW1.out; have h3 := hI.bl.size; omega)
                clear hI
                rcases Nat.lt_or_ge qs.length ws.length with hlt | hge
                · obtain ⟨hsl, ⟨_, h2, _⟩ | ⟨ad, rfl, hsc⟩⟩ := HWS.out
                  · omega
                  · have hcw := hsc qs.length (.string ws[qs.length]) (by rw [List.getElem?_map, List.getElem?_eq_getElem hlt]; rfl)
                    have hsp : ad.spot = none := World.cell?_spot (hsc 0 (.string (ws[0]'(by omega))) (by rw [List.getElem?_map, List.getElem?_eq_getElem]; rfl))
                    have hadB := HD.out _ (HWB.out ad rfl)
                    obtain ⟨wb, wo, sp⟩ := ad
                    cases hsp
                    rw [Addr.add_lit] at hcw
                    have q0 := cell_lo HBK.out (a := ⟨wb, wo + qs.length, none⟩) hadB hcw
                    have d3 : decide (qs.length < ws.length) = true := decide_eq_true hlt
                    have d3' : decide ((qs.length : Int) < (ws.length : Int)) = true := decide_eq_true (by omega)
                    have d4 : ((qs.length : Int) < (ws.length : Int)) := by omega
                    have HQ := hide (quoted_any ws[qs.length] wr (HWW.out.1 _ (List.getElem_mem hlt)) m (cell_lo HBK.out (a := ⟨0, 0, none⟩) hB0 HM.out))
                    have HDR := hide (show ws.drop qs.length = ws[qs.length] :: ws.drop (qs.length + 1) from List.drop_eq_getElem_cons hlt)
                    have HEQ := hide (show quotesT ws = preQ qs (quotesT (ws[qs.length] :: ws.drop (qs.length + 1))) from by rw [← HDR.out]; exact HI.out.eq)
                    clear hsl hsc hcw hadB
                    generalize ws[qs.length] = wk0 at *
                    cases hq : quoteT (T wk0) with
                    | none =>
                      have hqv : quoteV (T wk0) = .tuple #[.string ⟨#[]⟩, .bool false] := by unfold quoteV; rw [hq]
                      rw [hqv] at HQ
                      have HE := hide (show writeF d F = none from by rw [HX.out.eq, write_noq (quotes_none HEQ.out hq)]; rfl)
                      clear hqv hq
                      go_wp2_with fail
                      refine HQ.out.mono ?_
                      rintro e w2 ⟨rfl, hb2⟩
                      have HB2 := hide (below_lo HBK.out hb2 HSK.out)
                      have HD2 := hide (HDK.out.below hb2)
                      clear hb2
                      go_wp2_with fail
                      (try simp only [Exit.inBlock, Exit.then])
                      go_ret
                      rw [HE.out]
                      exact ⟨HB2.out, rfl, _, HD2.out⟩
                    | some q =>
                      have hqv : quoteV (T wk0) = .tuple #[.string ⟨q.toArray⟩, .bool true] := by unfold quoteV; rw [hq]
                      rw [hqv] at HQ
                      have HE := hide (quotes_some HEQ.out hq)
                      clear hqv hq
                      go_wp2_with fail
                      refine HQ.out.mono ?_
                      rintro e w2 ⟨rfl, hb2⟩
                      have HB2 := hide (below_lo HI.out.bl hb2 HI.out.bl.size)
                      have HO2 := hide ((own_belwt HI.out.own hb2).alloc (Obj.cells #[.string ⟨q.toArray⟩] 9))
                      have HR2 := hide (row_at (heap_new w2 (Obj.cells #[.string ⟨q.toArray⟩] 9)))
                      have HS2 := hide hb2.size
                      clear hb2
                      go_wp2_with (at_builtin; go_must (refine wpList_append_own_at _ rfl (.tmp 58) (.tmp 60) 41 rfl w1.heap.size 9 si _ 1 16 Try.underlying41 sz0 sz ss sb rfl (by decide) _ _ _ rfl HO2.out ⟨w2.heap.size, 0, none⟩ 1 1 [.string ⟨q.toArray⟩] rfl rfl HR2.out ?ones ?c63 ?cby ?cbase ?_))
                      case ones => simp [Value.oneCell']
                      case c63 => unfold maxLen; omega
                      case cby => omega
                      case cbase => have h1 := HI.out.bl.size; have h2 := HS2.out; simp; omega
                      intro v' w4 hown hgr _ hk2
                      have HI4 := hide (show WI w1 w4 v' (qs ++ [q]) ws (qs.length + 1) from ⟨(HB2.out.alloc HB2.out.size _).grown hgr (by have := HB2.out.size; simp; omega) (fun g e => (HO2.out.lt g e).1), by rw [List.length_append, List.map_append]; exact hown, HE.out, by simp⟩)
                      have HLT := hide hlt
                      clear hown hgr hk2
                      go_wp2_with fail
                      go_roundw
                      case rel => exact ⟨qs.length + 1, _, by go_num, HLT.out, HI4.out⟩
                      case measure => have := HLT.out; simp [intOf]; omega
                · have hkk : qs.length = ws.length := by omega
                  have d3 : decide (qs.length < ws.length) = false := decide_eq_false (by omega)
                  have d3' : decide ((qs.length : Int) < (ws.length : Int)) = false := decide_eq_false (by omega)
                  have hqs : quotesT ws = some qs := by
                    rw [HI.out.eq, hkk, List.drop_length, quotesT]; simp [preQ]
                  have HQS := hide hqs
                  obtain ⟨gq, cq, hvq, hgq1, hgq2⟩ := own_some' HI.out.own (by have h1 := HWQ.out; have h2 := HI.out.len; omega)
                  simp only [Value.slice.injEq, true_and] at hvq
                  obtain ⟨rfl, rfl⟩ := hvq
                  have HJL := hide (Nat.le_trans (join_le qs) (quotes_len ws qs hqs).2)
                  have HN0 := hide (heapB HI.out.bl HNB.out)
                  have HQL := hide hk
                  have HQC := hide (own_cells' HI.out.own)
                  have HRP := hide (Try.strings_Repeat ⟨#[32, 32, 32, 32]⟩ d wr (by omega) (by show 4 * d ≤ _; omega))
                  have hre : (Lib.repeatL (⟨#[32, 32, 32, 32]⟩ : ByteArray).data.toList d) = indT d := repeat_ind d
                  rw [hre] at HRP
                  generalize hbi : (⟨(indT d).toArray⟩ : ByteArray) = bi at HRP
                  have hTi : T bi = indT d := by rw [← hbi]; rfl
                  have hsi : bi.size ≤ 128 := by rw [← T_len, hTi]; simp [indT]; omega
                  have HTI := hide hTi
                  clear hbi hTi
                  have HCV := hide (own_capq HI.out.own)
                  clear hqs hre hkk hk hge
                  go_wp2_with fail
                  refine HRP.out.mono ?_
                  rintro e w5 ⟨rfl, hb5⟩
                  have HB5 := hide (below_lo HBK.out hb5 HSK.out)
                  have HD5 := hide (HDK.out.below hb5)
                  have HN5 := hide (heapB hb5 HN0.out)
                  have HS5 := hide (Nat.le_trans HSK.out hb5.size)
                  have HJ := hide (Try.strings_Join gq 0 cv (qs.map fun q => (⟨q.toArray⟩ : ByteArray)) ⟨#[32]⟩ w5 (by
                    intro j x hj
                    rw [List.getElem?_map] at hj
                    obtain ⟨q, hq, rfl⟩ := Option.map_eq_some_iff.1 hj
                    have := HQC.out j (.string ⟨q.toArray⟩) (by rw [List.getElem?_map, hq]; rfl)
                    rw [Addr.add_lit] at this
                    exact cellB hb5 this) (Nat.lt_of_lt_of_le hgq2 hb5.size) (by rw [List.length_map]; have h1 := HQL.out; omega) (by rw [List.length_map]; exact HCV.out) (by
                    have h1 := HJL.out
                    have h2 := HWT.out
                    rw [map_data]
                    show (Lib.join qs [32]).length ≤ _
                    omega))
                  rw [map_data, show (⟨#[32]⟩ : ByteArray).data.toList = [32] from rfl, List.length_map] at HJ
                  generalize hbj : (⟨(Lib.join qs [32]).toArray⟩ : ByteArray) = bj at HJ
                  have hTj : T bj = Lib.join qs [32] := by rw [← hbj]; rfl
                  have hsj : bj.size ≤ wsW ws := by rw [← T_len, hTj]; exact HJL.out
                  have hww : wsW ws ≤ 4398046511104 := by have := HWT.out; omega
                  have HTJ := hide hTj
                  clear hbj hTj
                  clear hb5 HRP
                  go_wp2_with fail
                  refine HJ.out.mono ?_
                  rintro e w6 ⟨rfl, hb6⟩
                  have HB6 := hide (below_lo HB5.out hb6 HS5.out)
                  have HD6 := hide (HD5.out.below hb6)
                  have HN6 := hide (heapB hb6 HN5.out)
                  have HS6 := hide (Nat.le_trans HS5.out hb6.size)
                  have HWR := hide (wstr_any (bi ++ bj) HD6.out (by rw [ByteArray.size_append]; have h2 := HWT.out; omega) HS6.out)
                  rw [T_append, HTI.out, HTJ.out] at HWR
                  clear hb6 HJ
                  go_wp2_with fail
                  refine HWR.out.mono ?_
                  rintro e w7 ⟨rfl, hd7, hb7, ho7⟩
                  have HB7 := hide (below_two HB6.out hb7)
                  have HN7 := hide (others_row ho7 HN6.out (by have := HSZ.out.2; omega) (by decide))
                  have n0 := cell_heap (j := 0) HN7.out rfl
                  have n1 := cell_heap (j := 1) HN7.out rfl
                  have n2 := cell_heap (j := 2) HN7.out rfl
                  have n3 := cell_heap (j := 3) HN7.out rfl
                  have HS7 := hide (Nat.le_trans HS6.out hb7.size)
                  have HD7 := hide hd7
                  have HJ2 := hide (show (Lib.join qs [32]).length ≤ wsW ws ∧ (indT d).length ≤ 128 from ⟨HJL.out, by simp [indT]; omega⟩)
                  clear hd7 hb7 ho7 HWR
                  have HW8 := hide (wstr_any (⟨#[32, 123, 10]⟩ : ByteArray) HD7.out (by have h1 := HJ2.out; have h2 := HWT.out; show _ + 3 ≤ _; simp at h2 ⊢; omega) HS7.out)
                  go_wp2_with fail
                  refine HW8.out.mono ?_
                  rintro e w8 ⟨rfl, hd8, hb8, ho8⟩
                  have HB8 := hide (below_two HB7.out hb8)
                  have HN8 := hide (others_row ho8 HN7.out (by have := HSZ.out.2; omega) (by decide))
                  have m2 := cell_heap (j := 2) HN8.out rfl
                  have m3 := cell_heap (j := 3) HN8.out rfl
                  have HS8 := hide (Nat.le_trans HS7.out hb8.size)
                  have hd8' : Bld Bx b (l ++ o ++ (indT d ++ Lib.join qs [32]) ++ [32, 123, 10]) w8 := hd8
                  have HD8 := hide hd8'
                  have HK8 := hide (src_keep HKS.out (fun a ha => HB8.out.block _ (HD.out _ (HKA.out a ha))))
                  have HF8 := hide (HKF.out.keep (fun q hq => HB8.out.block q (HD.out q hq)))
                  have HREC := hide (HIH.out K.nodes HNO.out.1 K rfl (d + 1) Ak ck ys _ D w8 HK8.out HF8.out HD.out (fun a ha => HD.out _ (HKA.out a ha)) hd8' HS8.out (by have := HD0.out; omega) (by have h1 := HJ2.out; have h2 := HWT.out; simp at h2 ⊢; omega) HWW.out.2.1 hB0 (cell_lo HB8.out (a := ⟨0, 0, none⟩) hB0 HM.out))
                  rw [show ((d + 1 : Nat) : Int) = (d : Int) + 1 from rfl] at HREC
                  clear hd8 hd8' hb8 ho8 n0 n1 n2 n3
                  go_wp2_with fail
                  refine HREC.out.mono ?_
                  rintro e w9 ⟨hb9, hh⟩
                  cases hk9 : writeF (d + 1) K with
                  | none =>
                    rw [hk9] at hh
                    obtain ⟨rfl, l', hl'⟩ := hh
                    have HE := hide (show writeF d F = none from by rw [HX.out.eq, write_kno hk9]; rfl)
                    have HB9 := hide (below_two HB8.out hb9)
                    have HL9 := hide hl'
                    clear hk9 hb9 hl'
                    go_wp2_with fail
                    (try simp only [Exit.inBlock, Exit.then])
                    go_ret
                    rw [HE.out]
                    exact ⟨HB9.out, rfl, _, HL9.out⟩
                  | some k9 =>
                    rw [hk9] at hh
                    obtain ⟨rfl, hd9⟩ := hh
                    have HB9 := hide (below_two HB8.out hb9)
                    have HS9 := hide (Nat.le_trans HS8.out hb9.size)
                    have HK9 := hide (write_wt K (d + 1) k9 hk9 (by have := HD0.out; omega))
                    have HW9 := hide (wstr_any (bi ++ (⟨#[125, 10]⟩ : ByteArray)) hd9 (by rw [ByteArray.size_append]; have h1 := HJ2.out; have h2 := HWT.out; have h3 := HK9.out; show _ + (bi.size + 2) ≤ _; simp at h2 ⊢; omega) HS9.out)
                    rw [T_append, HTI.out] at HW9
                    have HKE := hide hk9
                    clear hk9 hb9 hd9
                    go_wp2_with fail
                    refine HW9.out.mono ?_
                    rintro e wa ⟨rfl, hda, hba, hoa⟩
                    have HF := hide (show WL Bx b l w wa d F (i + 1) R (o ++ (indT d ++ Lib.join qs [32] ++ [32, 123, 10] ++ k9 ++ (indT d ++ [125, 10]))) xs D from ⟨below_two HB9.out hba, by
                      have e : l ++ (o ++ (indT d ++ Lib.join qs [32] ++ [32, 123, 10] ++ k9 ++ (indT d ++ [125, 10]))) = l ++ o ++ (indT d ++ Lib.join qs [32]) ++ [32, 123, 10] ++ k9 ++ (indT d ++ T (⟨#[125, 10]⟩ : ByteArray)) := by simp [T]
                      rw [e]
                      exact hda, HRF.out, by have := HLEN.out; omega, HNO.out.2, by rw [HX.out.eq, write_blk (by have := HWQ.out; omega) HD0.out HQS.out HKE.out, pre_pre], by
                      have h1 := HJ2.out
                      have h2 := HWT.out
                      have h3 := HK9.out
                      simp at h1 h2 ⊢
                      omega, HWW.out.2.2⟩)
                    clear hda hba hoa
                    go_wp2_with fail
                    go_roundw
                    case rel => exact ⟨i + 1, R, _, by go_num, HF.out⟩
                    case measure => have := HLEN.out; simp [intOf]; omega
            · have e1 : decide (32 ≤ d) = true := decide_eq_true (by omega)
              have e1' : decide ((32 : Int) ≤ (d : Int)) = true := decide_eq_true (by omega)
              have HE := hide (show writeF d F = none from by rw [HX.out.eq, write_bad (.inr (.inr ⟨rfl, by omega⟩))]; rfl)
              have HB1 := hide (fun o => below_lo HX.out.bl (bel_one wr o) (Nat.le_trans hBx HX.out.bl.size))
              have HBD := hide (fun o => HX.out.bd.below (bel_one wr o))
              clear hd0 hw0
              go_wp2_with fail
              (try simp only [Exit.inBlock, Exit.then])
              go_ret
              rw [HE.out]
              exact ⟨HB1.out _, rfl, _, HBD.out _⟩
end Go.Proofs.Ytihmmmodimionaa.Tr
