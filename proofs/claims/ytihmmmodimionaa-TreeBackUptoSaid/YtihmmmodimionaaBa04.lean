/- What the claim leans on, part 4 of 15: TY TZ TP TD TS. -/
import Derived.Test.YtihmmmodimionaaBa01
import Derived.Test.YtihmmmodimionaaBa02
import Derived.Test.YtihmmmodimionaaBa03
import Derived.Test.YtihmmmodimionaaShelf
/- write: what it lays in the builder (printed by gen_ty.py). -/
namespace Go.Proofs.Ytihmmmodimionaa.Tr
open Go.RowKit Go.Proofs.Ytihmmmodimionaa Go.Proofs.Ytihmmmodimionaa.Lx

abbrev Bld (Bx b : Nat) (l : List UInt8) (w : World) : Prop := Lib.IsBuilderF 84 5 Bx b (Lib.byteCells l) w
theorem ownsF_below {w w' : World} {base n size : Nat} {e : TypeId} {v : Value} {xs : List Value} (h : w.ownsRowF base e size v n xs) (hb : Below w.heap.size w w') : w'.ownsRowF base e size v n xs := h.kept (row := none) ⟨hb.os, hb.tape, hb.output, hb.size, fun i hi _ => hb.block i hi⟩ (by
  cases hv : v.ownBlock with
  | none => exact .inl rfl
  | some g => exact .inr (fun e => by cases e))
theorem Bld.below {Bx b : Nat} {l : List UInt8} {w w' : World} (h : Bld Bx b l w) (hb : Below w.heap.size w w') : Bld Bx b l w' := by
  rcases h with ⟨h1, v, h2, h3, h4⟩ | ⟨h1, v, h2, h3, h4⟩
  · exact .inl ⟨h1, v, heapB hb h2, ownsF_below h3 hb, h4⟩
  · exact .inr ⟨h1, v, heapB hb h2, ownsF_below h3 hb, h4⟩
theorem Bld.lt {Bx b : Nat} {l : List UInt8} {w : World} (h : Bld Bx b l w) : b < w.heap.size := by
  rcases h with ⟨h1, v, h2, h3, h4⟩ | ⟨h1, v, h2, h3, h4⟩ <;> exact lt_heap h2
theorem wstr_any {Bx b : Nat} {l : List UInt8} (s : ByteArray) {w : World} (h : Bld Bx b l w) (hlen : l.length + s.size ≤ 140737488355328) (hB : Bx ≤ w.heap.size) :
    Calls Try.prog 66 #[.pointer (some ⟨b, 0, none⟩), .string s] w fun e w' => e = .returned (.tuple #[.int .i64 s.size, .nilIface]) ∧ Bld Bx b (l ++ T s) w' ∧ Below Bx w w' ∧ Lib.OthersKept 5 (some b) w w' := by
  refine (Any.Builder_WriteString_k { Try.lays156 with } Try.Builder_Extra_156 Bx b (Lib.byteCells l) s w h (by rw [Lib.byteCells_length]; exact hlen) hB).mono ?_
  rintro e w' ⟨rfl, h1, h2, h3⟩
  refine ⟨rfl, .inr ?_, h2, h3⟩
  have e : Lib.byteCells (l ++ T s) = Lib.byteCells l ++ Lib.strCells s := by simp [Lib.byteCells, Lib.strCells, T]
  rw [e]
  exact h1
theorem others_row {b k : Nat} {w w' : World} {cs : Array Value} {t : TypeId} {fz : Nat × Nat} (h : Lib.OthersKept 5 (some b) w w') (hk : w.heap[k]? = some (.cells cs t fz)) (hb : k ≠ b) (ht : t ≠ 5) : w'.heap[k]? = some (.cells cs t fz) :=
  h k _ hk (fun e => by injection e with e; exact hb e) (fun c fz' e => by injection e with _ e _; exact ht e)
theorem below_lo {B : Nat} {w x y : World} (h : Below B w x) (h2 : Below x.heap.size x y) (hs : B ≤ x.heap.size) : Below B w y :=
  ⟨h2.os.trans h.os, h2.tape.trans h.tape, h2.output.trans h.output, Nat.le_trans h.size h2.size, fun i hi => (h2.block i (Nat.lt_of_lt_of_le hi hs)).trans (h.block i hi)⟩
theorem below_two {B : Nat} {w x y : World} (h : Below B w x) (h2 : Below B x y) : Below B w y :=
  ⟨h2.os.trans h.os, h2.tape.trans h.tape, h2.output.trans h.output, Nat.le_trans h.size h2.size, fun i hi => (h2.block i hi).trans (h.block i hi)⟩
theorem cell_lo {B : Nat} {w x : World} (h : Below B w x) {a : Addr} {v : Value} (hb : a.block < B) (hc : w.cell? a = some v) : x.cell? a = some v := (cell_block (h.block _ hb)).trans hc
theorem own_belwt {x x' : World} {base n size : Nat} {e : TypeId} {v : Value} {xs : List Value} (h : x.ownsRow base e size v n xs) (hb : Below x.heap.size x x') : x'.ownsRow base e size v n xs := h.kept (row := none) ⟨hb.os, hb.tape, hb.output, hb.size, fun i hi _ => hb.block i hi⟩ (by
  cases hv : v.ownBlock with
  | none => exact .inl rfl
  | some g => exact .inr (fun e => by cases e))
theorem own_some' {w : World} {base n : Nat} {e : TypeId} {v : Value} {xs : List Value} {size : Nat} (h : w.ownsRow base e size v n xs) (hn : 1 ≤ n) : ∃ g c, v = .slice (some ⟨g, 0, none⟩) n c ∧ base ≤ g ∧ g < w.heap.size := by
  have hl := h.lt
  rcases h.2 with ⟨h1, h2⟩ | ⟨g, cap, cur, h1, h2⟩
  · omega
  · subst h1
    exact ⟨g, cap, rfl, hl g rfl⟩
theorem own_cells' {w : World} {base n g c : Nat} {e : TypeId} {xs : List Value} {size : Nat} (h : w.ownsRow base e size (.slice (some ⟨g, 0, none⟩) n c) n xs) : ∀ j x, xs[j]? = some x → w.cell? ((⟨g, 0, none⟩ : Addr).add j) = some x := by
  intro j x hj
  rcases h.2 with ⟨h1, _⟩ | ⟨g', cap, cur, h1, _, h3, _, _, _, h5⟩
  · cases h1
  · injection h1 with h1
    injection h1 with h1
    injection h1 with h1
    subst h1
    rw [Addr.add_lit]
    refine cell_heap h3 ?_
    have hl : j < n * size := by
      have := (List.getElem?_eq_some_iff.1 hj).1
      rw [h.1] at this
      exact this
    rw [← h5, List.getElem?_take_of_lt hl] at hj
    simpa using hj
theorem own_capq {w : World} {base size n c : Nat} {A : Option Addr} {e : TypeId} {xs : List Value} (h : w.ownsRow base e size (.slice A n c) n xs) : n ≤ c := by
  rcases h.2 with ⟨h1, h2⟩ | ⟨g, cap, cur, h1, _, _, h4, h5, _⟩
  · cases h1; exact Nat.le_refl _
  · cases h1; exact h4
theorem map_data (qs : List (List UInt8)) : (qs.map fun q => (⟨q.toArray⟩ : ByteArray)).map (·.data.toList) = qs := by
  rw [List.map_map]
  conv => rhs; rw [← List.map_id qs]
  exact List.map_congr_left (fun q _ => rfl)
theorem T_append (a b : ByteArray) : T (a ++ b) = T a ++ T b := by simp [T, ByteArray.data_append]
/-- what write hands back -/
def WrOut (Bx b : Nat) (l : List UInt8) (r : Option (List UInt8)) (w : World) (e : Ending) (w' : World) : Prop := Below Bx w w' ∧ match r with
  | some o => e = .returned (.bool true) ∧ Bld Bx b (l ++ o) w'
  | none => e = .returned (.bool false) ∧ ∃ l', Bld Bx b l' w'
/-- write, at the head of a round -/
structure WL (Bx b : Nat) (l : List UInt8) (w wr : World) (d : Nat) (F : Fo) (i : Nat) (R : Fo) (o : List UInt8) (xs : List Value) (D : Nat → Prop) : Prop where
  bl : Below Bx w wr
  bd : Bld Bx b (l ++ o) wr
  fo : FoV w D R (xs.drop (i * 4))
  len : i + R.len = F.len
  nodes : R.nodes ≤ F.nodes
  eq : writeF d F = pre o (writeF d R)
  wt : (l ++ o).length + wtF R ≤ 4398046511104
  wb : WB R
/-- .. in the loop over the words -/
structure WI (w1 wk : World) (va : Value) (qs : List (List UInt8)) (ws : List ByteArray) (k : Nat) : Prop where
  bl : Below w1.heap.size w1 wk
  own : wk.ownsRow w1.heap.size 9 1 va qs.length (qs.map fun q => Value.string ⟨q.toArray⟩)
  eq : quotesT ws = preQ qs (quotesT (ws.drop k))
  len : qs.length = k
theorem drop_fo {w : World} {D : Nat → Prop} {ws : List ByteArray} {ps : List (Int × Int)} {blk : Bool} {K R : Fo} {xs : List Value} {i : Nat} (h : FoV w D (.cons ws ps blk K R) (xs.drop (i * 4))) :
    ∃ vw vp A c ys, xs[i * 4]? = some vw ∧ xs[i * 4 + 1]? = some vp ∧ xs[i * 4 + 2]? = some (.bool blk) ∧ xs[i * 4 + 3]? = some (.slice A K.len c) ∧ StrV w D vw ws ∧ PosV w D vp ps ∧ Src w A K.len c 4 ys ∧ (∀ a, A = some a → D a.block) ∧ FoV w D K ys ∧ FoV w D R (xs.drop ((i + 1) * 4)) := by
  obtain ⟨vw, vp, A, c, ys, xs', e, h1, h2, h3, h4, h5, h6⟩ := h
  have g : ∀ j, xs[i * 4 + j]? = (vw :: vp :: .bool blk :: .slice A K.len c :: xs')[j]? := fun j => by rw [← e, List.getElem?_drop]
  refine ⟨vw, vp, A, c, ys, g 0, g 1, g 2, g 3, h1, h2, h3, h4, h5, ?_⟩
  have : xs.drop ((i + 1) * 4) = xs' := by
    rw [show (i + 1) * 4 = i * 4 + 4 by omega, ← List.drop_drop, e]; rfl
  rw [this]
  exact h6
set_option maxHeartbeats 8000000 in
set_option maxRecDepth 100000 in
theorem write_any (Bx b : Nat) (m : Int) : ∀ (n : Nat) (F : Fo), F.nodes = n → ∀ (d : Nat) (A : Option Addr) (c : Nat) (xs : List Value) (l : List UInt8) (D : Nat → Prop) (w : World), Src w A F.len c 4 xs → FoV w D F xs → (∀ q, D q → q < Bx) → (∀ a, A = some a → a.block < Bx) → Bld Bx b l w → Bx ≤ w.heap.size → d ≤ 32 → l.length + wtF F ≤ 4398046511104 → WB F → 0 < Bx → w.cell? ⟨0, 0, none⟩ = some (.int .i64 m) →
    Calls Try.prog 36 #[.pointer (some ⟨b, 0, none⟩), .slice A F.len c, .int .i64 d] w (WrOut Bx b l (writeF d F) w) := by
  intro n
  induction n using Nat.strongRecOn with
  | _ n ih =>
  intro F hn d A c xs l D w hs hf hD hA hb hBx hd hwt hwb hB0 hm
  obtain ⟨si, sz0, sz, ss, sb⟩ := info_parts infoS
  have HIH := hide ih
  have HS := hide hs
  have HST := hide (show WL Bx b l w w d F 0 F [] xs D from ⟨Below.refl _ _, by simpa using hb, by simpa using hf, by simp, Nat.le_refl _, (pre_nil _).symm, by simpa using hwt, hwb⟩)
  have hlF := len_wt F
  have hFl : F.len ≤ 4398046511104 := by omega
  have HD := hide hD
  have HA := hide hA
  have HM := hide hm
  have HN := hide hn
  clear hs hf hD hA hb hwt hwb hm ih hn hlF
  go_enter Try.func36, Try.ntmps36
  go_wp2_with fail
  go_loopw [17] (fun j wr => ∃ (i : Nat) (R : Fo) (o : List UInt8), j = .int .i64 i ∧ WL Bx b l w wr d F i R o xs D) (fun j _ => F.len - (intOf j).toNat)
  case atStart => exact ⟨0, F, [], rfl, HST.out⟩
  case round =>
    clear HST
    obtain ⟨i, R, o, rfl, hX⟩ := hrel
    have HX := hide hX
    clear hX
    cases R with
    | nil =>
      have hi : i = F.len := by have := HX.out.len; simpa [Fo.len] using this
      have d1 : decide (i < F.len) = false := decide_eq_false (by omega)
      have d1' : decide ((i : Int) < (F.len : Int)) = false := decide_eq_false (by omega)
      clear hi
      go_wp2_with fail
      go_ret
      have he := HX.out.eq
      have e : writeF d F = some o := by rw [he, writeF]; simp [pre]
      rw [e]
      exact ⟨HX.out.bl, rfl, HX.out.bd⟩
    | cons ws ps blk K R =>
      have hlen : i + (R.len + 1) = F.len := HX.out.len
      have d1 : decide (i < F.len) = true := decide_eq_true (by omega)
      have d1' : decide ((i : Int) < (F.len : Int)) = true := decide_eq_true (by omega)
      have d2 : ((i : Int) < (F.len : Int)) := by omega
      obtain ⟨vw, vp, Ak, ck, ys, g0, g1, g2, g3, hvw, hvp, hks, hkA, hkF, hRF⟩ := drop_fo HX.out.fo
      obtain ⟨hsl, ⟨h1, h2, _⟩ | ⟨ad, rfl, hsc⟩⟩ := HS.out
      · omega
      · have hc0 := hsc _ _ g0
        have hc1 := hsc _ _ g1
        have hc2 := hsc _ _ g2
        have hc3 := hsc _ _ g3
        have hadB := HA.out ad rfl
        have hsp : ad.spot = none := by
          obtain ⟨x0, hx0⟩ : ∃ x0, xs[0]? = some x0 := ⟨xs[0]'(by rw [hsl]; omega), List.getElem?_eq_getElem _⟩
          exact World.cell?_spot (hsc 0 x0 hx0)
        obtain ⟨ab, ao, sp⟩ := ad
        cases hsp
        rw [Addr.add_lit] at hc0 hc1 hc2 hc3
        have c0 := cell_lo HX.out.bl (a := ⟨ab, ao + i * 4, none⟩) hadB hc0
        have c1 := cell_lo HX.out.bl (a := ⟨ab, ao + i * 4 + 1, none⟩) hadB (by rw [Nat.add_assoc]; exact hc1)
        have c2 := cell_lo HX.out.bl (a := ⟨ab, ao + i * 4 + 2, none⟩) hadB (by rw [Nat.add_assoc]; exact hc2)
        have c3 := cell_lo HX.out.bl (a := ⟨ab, ao + i * 4 + 3, none⟩) hadB (by rw [Nat.add_assoc]; exact hc3)
        obtain ⟨Aw, cw, rfl, hws, hwB⟩ := hvw
        obtain ⟨Ap, cp, rfl, _, _⟩ := hvp
        have HKS := hide hks
        have HKA := hide hkA
        have HKF := hide hkF
        have HRF := hide hRF
        have HWS := hide hws
        have HWB := hide hwB
        have hno : Fo.nodes (.cons ws ps blk K R) = K.nodes + R.nodes + 1 := rfl
        have HNO := hide (show K.nodes < n ∧ R.nodes ≤ F.nodes from by have h1 := HX.out.nodes; have h2 := HN.out; omega)
        have HWT := hide (show (l ++ o).length + (wsW ws + 300 + wtF K + wtF R) ≤ 4398046511104 from HX.out.wt)
        have HWW := hide (show (∀ w ∈ ws, w.size < 4294967281) ∧ WB K ∧ WB R from HX.out.wb)
        have HLEN := hide hlen
        have hwl : ws.length ≤ wsW ws := by
          have : ∀ l : List ByteArray, l.length ≤ wsW l := fun l => by
            induction l with
            | nil => exact Nat.le_refl _
            | cons a l ih => simp only [wsW, List.length_cons]; omega
          exact this ws
        have hkl : K.len ≤ 4398046511104 := by have h1 := len_wt K; have h2 := HWT.out; omega
        have hwl2 : ws.length ≤ 4398046511104 := by have h2 := HWT.out; omega
        clear hsl hsc g0 g1 g2 g3 hks hkA hkF hRF hws hwB hno hwl hc0 hc1 hc2 hc3 hadB hlen
        rcases Nat.eq_zero_or_pos ws.length with hw0 | hw0
        · have e0 : (ws.length == 0) = true := by simpa using hw0
          have e0' : ((ws.length : Int) == 0) = true := beq_it (by omega)
          have HE := hide (show writeF d F = none from by rw [HX.out.eq, write_bad (.inl hw0)]; rfl)
          have HB1 := hide (fun o => below_lo HX.out.bl (bel_one wr o) (Nat.le_trans hBx HX.out.bl.size))
          have HBD := hide (fun o => HX.out.bd.below (bel_one wr o))
          clear hw0
          go_wp2_with fail
          (try simp only [Exit.inBlock, Exit.then])
          go_ret
          rw [HE.out]
          exact ⟨HB1.out _, rfl, _, HBD.out _⟩
        · have e0 : (ws.length == 0) = false := beq_eq_false_iff_ne.2 (by omega)
          have e0' : ((ws.length : Int) == 0) = false := beq_if (by omega)
          cases blk with
          | false =>
            rcases Nat.eq_zero_or_pos K.len with hk0 | hk0
            · have e1 : decide (0 < K.len) = false := decide_eq_false (by omega)
              have e1' : decide ((0 : Int) < (K.len : Int)) = false := decide_eq_false (by omega)
              have HK0 := hide hk0
              clear hk0
              have HB1 := hide (below_lo HX.out.bl (bel_one wr (Obj.cells #[.slice Aw ws.length cw, .slice Ap ps.length cp, .bool false, .slice Ak K.len ck] 44)) (Nat.le_trans hBx HX.out.bl.size))
              have HBD := hide (HX.out.bd.below (bel_one wr (Obj.cells #[.slice Aw ws.length cw, .slice Ap ps.length cp, .bool false, .slice Ak K.len ck] 44)))
              have HNB := hide (heap_new wr (Obj.cells #[.slice Aw ws.length cw, .slice Ap ps.length cp, .bool false, .slice Ak K.len ck] 44))
              have HSZ := hide (show Bx ≤ wr.heap.size ∧ b < wr.heap.size from ⟨Nat.le_trans hBx HX.out.bl.size, HX.out.bd.lt⟩)
              have HW1 := hide (show (wr.alloc (Obj.cells #[.slice Aw ws.length cw, .slice Ap ps.length cp, .bool false, .slice Ak K.len ck] 44)).heap.size = wr.heap.size + 1 from by simp)
              have HI0 := hide (show WI (wr.alloc (Obj.cells #[.slice Aw ws.length cw, .slice Ap ps.length cp, .bool false, .slice Ak K.len ck] 44)) (wr.alloc (Obj.cells #[.slice Aw ws.length cw, .slice Ap ps.length cp, .bool false, .slice Ak K.len ck] 44)) (.slice none 0 0) [] ws 0 from ⟨Below.refl _ _, ⟨rfl, .inl ⟨rfl, rfl⟩⟩, (preQ_nil _).symm, rfl⟩)
              have HWQ := hide hw0
              clear hw0
              go_wp2_with fail
              generalize wr.alloc (Obj.cells #[.slice Aw ws.length cw, .slice Ap ps.length cp, .bool false, .slice Ak K.len ck] 44) = w1 at *
              go_loopw [9, 47] (fun va j wk => ∃ (k : Nat) (qs : List (List UInt8)), j = .int .i64 k ∧ k ≤ ws.length ∧ WI w1 wk va qs ws k) (fun _ j _ => ws.length - (intOf j).toNat)
              case atStart => exact ⟨0, [], rfl, Nat.zero_le _, HI0.out⟩
              case round =>
                clear HI0
                obtain ⟨k, qs, rfl, hk, hI⟩ := hrel
                obtain rfl : qs.length = k := hI.len
                obtain ⟨Av, cv, rfl⟩ := own_slice hI.own
                have HI := hide hI
                have HBK := hide (below_lo HB1.out hI.bl (by have h1 := HSZ.out.1; have h2 := HW1.out; omega))
                have HDK := hide (HBD.out.below hI.bl)
                have HSK := hide (show Bx ≤ wr.heap.size from by have h1 := HSZ.out.1; have h2 := HW1.out; have h3 := hI.bl.size; omega)
                clear hI
                rcases Nat.lt_or_ge qs.length ws.length with hlt | hge
                · obtain ⟨hsl, ⟨_, h2, _⟩ | ⟨ad, rfl, hsc⟩⟩ := HWS.out
                  · omega
                  · have hcw := hsc qs.length (.string ws[qs.length]) (by rw [List.getElem?_map, List.getElem?_eq_getElem hlt]; rfl)
                    have hsp : ad.spot = none := World.cell?_spot (hsc 0 (.string (ws[0]'(by omega))) (by rw [List.getElem?_map, List.getElem?_eq_getElem]; rfl))
                    have hadB := HD.out _ (HWB.out ad rfl).1
                    obtain ⟨wb, wo, sp⟩ := ad
                    cases hsp
                    rw [Addr.add_lit] at hcw
                    have q0 := cell_lo HBK.out (a := ⟨wb, wo + qs.length, none⟩) hadB hcw
                    have d3 : decide (qs.length < ws.length) = true := decide_eq_true hlt
                    have d3' : decide ((qs.length : Int) < (ws.length : Int)) = true := decide_eq_true (by omega)
                    have d4 : ((qs.length : Int) < (ws.length : Int)) := by omega
                    have HQ := hide (quoted_any ws[qs.length] wr (HWW.out.1 _ (List.getElem_mem hlt)) m (cell_lo HBK.out (a := ⟨0, 0, none⟩) hB0 HM.out))
                    have HDR := hide (show ws.drop qs.length = ws[qs.length] :: ws.drop (qs.length + 1) from List.drop_eq_getElem_cons hlt)
                    have HEQ := hide (show quotesT ws = preQ qs (quotesT (ws[qs.length] :: ws.drop (qs.length + 1))) from by rw [← HDR.out]; exact HI.out.eq)
                    clear hsl hsc hcw hadB
                    generalize ws[qs.length] = wk0 at *
                    cases hq : quoteT (T wk0) with
                    | none =>
                      have hqv : quoteV (T wk0) = .tuple #[.string ⟨#[]⟩, .bool false] := by unfold quoteV; rw [hq]
                      rw [hqv] at HQ
                      have HE := hide (show writeF d F = none from by rw [HX.out.eq, write_noq (quotes_none HEQ.out hq)]; rfl)
                      clear hqv hq
                      go_wp2_with fail
                      refine HQ.out.mono ?_
                      rintro e w2 ⟨rfl, hb2⟩
                      have HB2 := hide (below_lo HBK.out hb2 HSK.out)
                      have HD2 := hide (HDK.out.below hb2)
                      clear hb2
                      go_wp2_with fail
                      (try simp only [Exit.inBlock, Exit.then])
                      go_ret
                      rw [HE.out]
                      exact ⟨HB2.out, rfl, _, HD2.out⟩
                    | some q =>
                      have hqv : quoteV (T wk0) = .tuple #[.string ⟨q.toArray⟩, .bool true] := by unfold quoteV; rw [hq]
                      rw [hqv] at HQ
                      have HE := hide (quotes_some HEQ.out hq)
                      clear hqv hq
                      go_wp2_with fail
                      refine HQ.out.mono ?_
                      rintro e w2 ⟨rfl, hb2⟩
                      have HB2 := hide (below_lo HI.out.bl hb2 HI.out.bl.size)
                      have HO2 := hide ((own_belwt HI.out.own hb2).alloc (Obj.cells #[.string ⟨q.toArray⟩] 9))
                      have HR2 := hide (row_at (heap_new w2 (Obj.cells #[.string ⟨q.toArray⟩] 9)))
                      have HS2 := hide hb2.size
                      clear hb2
                      go_wp2_with (at_builtin; go_must (refine wpList_append_own_at _ rfl (.tmp 58) (.tmp 60) 41 rfl w1.heap.size 9 si _ 1 16 Try.underlying41 sz0 sz ss sb rfl (by decide) _ _ _ rfl HO2.out ⟨w2.heap.size, 0, none⟩ 1 1 [.string ⟨q.toArray⟩] rfl rfl HR2.out ?ones ?c63 ?cby ?cbase ?_))
                      case ones => simp [Value.oneCell']
                      case c63 => unfold maxLen; omega
                      case cby => omega
                      case cbase => have h1 := HI.out.bl.size; have h2 := HS2.out; simp; omega
                      intro v' w4 hown hgr _ hk2
                      have HI4 := hide (show WI w1 w4 v' (qs ++ [q]) ws (qs.length + 1) from ⟨(HB2.out.alloc HB2.out.size _).grown hgr (by have := HB2.out.size; simp; omega) (fun g e => (HO2.out.lt g e).1), by rw [List.length_append, List.map_append]; exact hown, HE.out, by simp⟩)
                      have HLT := hide hlt
                      clear hown hgr hk2
                      go_wp2_with fail
                      go_roundw
                      case rel => exact ⟨qs.length + 1, _, by go_num, HLT.out, HI4.out⟩
                      case measure => have := HLT.out; simp [intOf]; omega
                · have hkk : qs.length = ws.length := by omega
                  have d3 : decide (qs.length < ws.length) = false := decide_eq_false (by omega)
                  have d3' : decide ((qs.length : Int) < (ws.length : Int)) = false := decide_eq_false (by omega)
                  have hqs : quotesT ws = some qs := by
                    rw [HI.out.eq, hkk, List.drop_length, quotesT]; simp [preQ]
                  have HQS := hide hqs
                  obtain ⟨gq, cq, hvq, hgq1, hgq2⟩ := own_some' HI.out.own (by have h1 := HWQ.out; have h2 := HI.out.len; omega)
                  simp only [Value.slice.injEq, true_and] at hvq
                  obtain ⟨rfl, rfl⟩ := hvq
                  have HJL := hide (Nat.le_trans (join_le qs) (quotes_len ws qs hqs).2)
                  have HN0 := hide (heapB HI.out.bl HNB.out)
                  have HQL := hide hk
                  have HQC := hide (own_cells' HI.out.own)
                  have HRP := hide (Try.strings_Repeat ⟨#[32, 32, 32, 32]⟩ d wr (by omega) (by show 4 * d ≤ _; omega))
                  have hre : (Lib.repeatL (⟨#[32, 32, 32, 32]⟩ : ByteArray).data.toList d) = indT d := repeat_ind d
                  rw [hre] at HRP
                  generalize hbi : (⟨(indT d).toArray⟩ : ByteArray) = bi at HRP
                  have hTi : T bi = indT d := by rw [← hbi]; rfl
                  have hsi : bi.size ≤ 128 := by rw [← T_len, hTi]; simp [indT]; omega
                  have HTI := hide hTi
                  clear hbi hTi
                  have HCV := hide (own_capq HI.out.own)
                  clear hqs hre hkk hk hge
                  go_wp2_with fail
                  refine HRP.out.mono ?_
                  rintro e w5 ⟨rfl, hb5⟩
                  have HB5 := hide (below_lo HBK.out hb5 HSK.out)
                  have HD5 := hide (HDK.out.below hb5)
                  have HN5 := hide (heapB hb5 HN0.out)
                  have HS5 := hide (Nat.le_trans HSK.out hb5.size)
                  have HJ := hide (Try.strings_Join gq 0 cv (qs.map fun q => (⟨q.toArray⟩ : ByteArray)) ⟨#[32]⟩ w5 (by
                    intro j x hj
                    rw [List.getElem?_map] at hj
                    obtain ⟨q, hq, rfl⟩ := Option.map_eq_some_iff.1 hj
                    have := HQC.out j (.string ⟨q.toArray⟩) (by rw [List.getElem?_map, hq]; rfl)
                    rw [Addr.add_lit] at this
                    exact cellB hb5 this) (Nat.lt_of_lt_of_le hgq2 hb5.size) (by rw [List.length_map]; have h1 := HQL.out; omega) (by rw [List.length_map]; exact HCV.out) (by
                    have h1 := HJL.out
                    have h2 := HWT.out
                    rw [map_data]
                    show (Lib.join qs [32]).length ≤ _
                    omega))
                  rw [map_data, show (⟨#[32]⟩ : ByteArray).data.toList = [32] from rfl, List.length_map] at HJ
                  generalize hbj : (⟨(Lib.join qs [32]).toArray⟩ : ByteArray) = bj at HJ
                  have hTj : T bj = Lib.join qs [32] := by rw [← hbj]; rfl
                  have hsj : bj.size ≤ wsW ws := by rw [← T_len, hTj]; exact HJL.out
                  have hww : wsW ws ≤ 4398046511104 := by have := HWT.out; omega
                  have HTJ := hide hTj
                  clear hbj hTj
                  clear hb5 HRP
                  go_wp2_with fail
                  refine HJ.out.mono ?_
                  rintro e w6 ⟨rfl, hb6⟩
                  have HB6 := hide (below_lo HB5.out hb6 HS5.out)
                  have HD6 := hide (HD5.out.below hb6)
                  have HN6 := hide (heapB hb6 HN5.out)
                  have HS6 := hide (Nat.le_trans HS5.out hb6.size)
                  have HWR := hide (wstr_any (bi ++ bj) HD6.out (by rw [ByteArray.size_append]; have h2 := HWT.out; omega) HS6.out)
                  rw [T_append, HTI.out, HTJ.out] at HWR
                  clear hb6 HJ
                  go_wp2_with fail
                  refine HWR.out.mono ?_
                  rintro e w7 ⟨rfl, hd7, hb7, ho7⟩
                  have HB7 := hide (below_two HB6.out hb7)
                  have HN7 := hide (others_row ho7 HN6.out (by have := HSZ.out.2; omega) (by decide))
                  have n0 := cell_heap (j := 0) HN7.out rfl
                  have n1 := cell_heap (j := 1) HN7.out rfl
                  have n2 := cell_heap (j := 2) HN7.out rfl
                  have n3 := cell_heap (j := 3) HN7.out rfl
                  have HS7 := hide (Nat.le_trans HS6.out hb7.size)
                  have HD7 := hide hd7
                  have HJ2 := hide (show (Lib.join qs [32]).length ≤ wsW ws ∧ (indT d).length ≤ 128 from ⟨HJL.out, by simp [indT]; omega⟩)
                  clear hd7 hb7 ho7 HWR
                  have HW8 := hide (wstr_any (⟨#[59, 10]⟩ : ByteArray) HD7.out (by have h1 := HJ2.out; have h2 := HWT.out; show _ + 2 ≤ _; simp at h2 ⊢; omega) HS7.out)
                  go_wp2_with fail
                  refine HW8.out.mono ?_
                  rintro e w8 ⟨rfl, hd8, hb8, ho8⟩
                  have HF := hide (show WL Bx b l w w8 d F (i + 1) R (o ++ (indT d ++ Lib.join qs [32] ++ [59, 10])) xs D from ⟨below_two HB7.out hb8, by simpa [T] using hd8, HRF.out, by have := HLEN.out; omega, HNO.out.2, by rw [HX.out.eq, write_leaf (by have := HWQ.out; omega) HK0.out HQS.out, pre_pre], by
                    have h1 := HJ2.out
                    have h2 := HWT.out
                    simp at h2 ⊢
                    omega, HWW.out.2.2⟩)
                  clear hd8 hb8 ho8
                  go_wp2_with fail
                  go_roundw
                  case rel => exact ⟨i + 1, R, _, by go_num, HF.out⟩
                  case measure => have := HLEN.out; simp [intOf]; omega
            · have e1 : decide (0 < K.len) = true := decide_eq_true (by omega)
              have e1' : decide ((0 : Int) < (K.len : Int)) = true := decide_eq_true (by omega)
              have HE := hide (show writeF d F = none from by rw [HX.out.eq, write_bad (.inr (.inl ⟨rfl, by omega⟩))]; rfl)
              have HB1 := hide (fun o => below_lo HX.out.bl (bel_one wr o) (Nat.le_trans hBx HX.out.bl.size))
              have HBD := hide (fun o => HX.out.bd.below (bel_one wr o))
              clear hk0 hw0
              go_wp2_with fail
              (try simp only [Exit.inBlock, Exit.then])
              go_ret
              rw [HE.out]
              exact ⟨HB1.out _, rfl, _, HBD.out _⟩
          | true =>
            rcases Nat.lt_or_ge d 32 with hd0 | hd0
            · have e1 : decide (32 ≤ d) = false := decide_eq_false (by omega)
              have e1' : decide ((32 : Int) ≤ (d : Int)) = false := decide_eq_false (by omega)
              have HD0 := hide hd0
              clear hd0
              have HB1 := hide (below_lo HX.out.bl (bel_one wr (Obj.cells #[.slice Aw ws.length cw, .slice Ap ps.length cp, .bool true, .slice Ak K.len ck] 44)) (Nat.le_trans hBx HX.out.bl.size))
              have HBD := hide (HX.out.bd.below (bel_one wr (Obj.cells #[.slice Aw ws.length cw, .slice Ap ps.length cp, .bool true, .slice Ak K.len ck] 44)))
              have HNB := hide (heap_new wr (Obj.cells #[.slice Aw ws.length cw, .slice Ap ps.length cp, .bool true, .slice Ak K.len ck] 44))
              have HSZ := hide (show Bx ≤ wr.heap.size ∧ b < wr.heap.size from ⟨Nat.le_trans hBx HX.out.bl.size, HX.out.bd.lt⟩)
              have HW1 := hide (show (wr.alloc (Obj.cells #[.slice Aw ws.length cw, .slice Ap ps.length cp, .bool true, .slice Ak K.len ck] 44)).heap.size = wr.heap.size + 1 from by simp)
              have HI0 := hide (show WI (wr.alloc (Obj.cells #[.slice Aw ws.length cw, .slice Ap ps.length cp, .bool true, .slice Ak K.len ck] 44)) (wr.alloc (Obj.cells #[.slice Aw ws.length cw, .slice Ap ps.length cp, .bool true, .slice Ak K.len ck] 44)) (.slice none 0 0) [] ws 0 from ⟨Below.refl _ _, ⟨rfl, .inl ⟨rfl, rfl⟩⟩, (preQ_nil _).symm, rfl⟩)
              have HWQ := hide hw0
              clear hw0
              go_wp2_with fail
              generalize wr.alloc (Obj.cells #[.slice Aw ws.length cw, .slice Ap ps.length cp, .bool true, .slice Ak K.len ck] 44) = w1 at *
              go_loopw [9, 47] (fun va j wk => ∃ (k : Nat) (qs : List (List UInt8)), j = .int .i64 k ∧ k ≤ ws.length ∧ WI w1 wk va qs ws k) (fun _ j _ => ws.length - (intOf j).toNat)
              case atStart => exact ⟨0, [], rfl, Nat.zero_le _, HI0.out⟩
              case round =>
                clear HI0
                obtain ⟨k, qs, rfl, hk, hI⟩ := hrel
                obtain rfl : qs.length = k := hI.len
                obtain ⟨Av, cv, rfl⟩ := own_slice hI.own
                have HI := hide hI
                have HBK := hide (below_lo HB1.out hI.bl (by have h1 := HSZ.out.1; have h2 := HW1.out; omega))
                have HDK := hide (HBD.out.below hI.bl)
                have HSK := hide (show Bx ≤ wr.heap.size from by have h1 := HSZ.out.1; have h2 := HW1.out; have h3 := hI.bl.size; omega)
                clear hI
                rcases Nat.lt_or_ge qs.length ws.length with hlt | hge
                · obtain ⟨hsl, ⟨_, h2, _⟩ | ⟨ad, rfl, hsc⟩⟩ := HWS.out
                  · omega
                  · have hcw := hsc qs.length (.string ws[qs.length]) (by rw [List.getElem?_map, List.getElem?_eq_getElem hlt]; rfl)
                    have hsp : ad.spot = none := World.cell?_spot (hsc 0 (.string (ws[0]'(by omega))) (by rw [List.getElem?_map, List.getElem?_eq_getElem]; rfl))
                    have hadB := HD.out _ (HWB.out ad rfl).1
                    obtain ⟨wb, wo, sp⟩ := ad
                    cases hsp
                    rw [Addr.add_lit] at hcw
                    have q0 := cell_lo HBK.out (a := ⟨wb, wo + qs.length, none⟩) hadB hcw
                    have d3 : decide (qs.length < ws.length) = true := decide_eq_true hlt
                    have d3' : decide ((qs.length : Int) < (ws.length : Int)) = true := decide_eq_true (by omega)
                    have d4 : ((qs.length : Int) < (ws.length : Int)) := by omega
                    have HQ := hide (quoted_any ws[qs.length] wr (HWW.out.1 _ (List.getElem_mem hlt)) m (cell_lo HBK.out (a := ⟨0, 0, none⟩) hB0 HM.out))
                    have HDR := hide (show ws.drop qs.length = ws[qs.length] :: ws.drop (qs.length + 1) from List.drop_eq_getElem_cons hlt)
                    have HEQ := hide (show quotesT ws = preQ qs (quotesT (ws[qs.length] :: ws.drop (qs.length + 1))) from by rw [← HDR.out]; exact HI.out.eq)
                    clear hsl hsc hcw hadB
                    generalize ws[qs.length] = wk0 at *
                    cases hq : quoteT (T wk0) with
                    | none =>
                      have hqv : quoteV (T wk0) = .tuple #[.string ⟨#[]⟩, .bool false] := by unfold quoteV; rw [hq]
                      rw [hqv] at HQ
                      have HE := hide (show writeF d F = none from by rw [HX.out.eq, write_noq (quotes_none HEQ.out hq)]; rfl)
                      clear hqv hq
                      go_wp2_with fail
                      refine HQ.out.mono ?_
                      rintro e w2 ⟨rfl, hb2⟩
                      have HB2 := hide (below_lo HBK.out hb2 HSK.out)
                      have HD2 := hide (HDK.out.below hb2)
                      clear hb2
                      go_wp2_with fail
                      (try simp only [Exit.inBlock, Exit.then])
                      go_ret
                      rw [HE.out]
                      exact ⟨HB2.out, rfl, _, HD2.out⟩
                    | some q =>
                      have hqv : quoteV (T wk0) = .tuple #[.string ⟨q.toArray⟩, .bool true] := by unfold quoteV; rw [hq]
                      rw [hqv] at HQ
                      have HE := hide (quotes_some HEQ.out hq)
                      clear hqv hq
                      go_wp2_with fail
                      refine HQ.out.mono ?_
                      rintro e w2 ⟨rfl, hb2⟩
                      have HB2 := hide (below_lo HI.out.bl hb2 HI.out.bl.size)
                      have HO2 := hide ((own_belwt HI.out.own hb2).alloc (Obj.cells #[.string ⟨q.toArray⟩] 9))
                      have HR2 := hide (row_at (heap_new w2 (Obj.cells #[.string ⟨q.toArray⟩] 9)))
                      have HS2 := hide hb2.size
                      clear hb2
                      go_wp2_with (at_builtin; go_must (refine wpList_append_own_at _ rfl (.tmp 58) (.tmp 60) 41 rfl w1.heap.size 9 si _ 1 16 Try.underlying41 sz0 sz ss sb rfl (by decide) _ _ _ rfl HO2.out ⟨w2.heap.size, 0, none⟩ 1 1 [.string ⟨q.toArray⟩] rfl rfl HR2.out ?ones ?c63 ?cby ?cbase ?_))
                      case ones => simp [Value.oneCell']
                      case c63 => unfold maxLen; omega
                      case cby => omega
                      case cbase => have h1 := HI.out.bl.size; have h2 := HS2.out; simp; omega
                      intro v' w4 hown hgr _ hk2
                      have HI4 := hide (show WI w1 w4 v' (qs ++ [q]) ws (qs.length + 1) from ⟨(HB2.out.alloc HB2.out.size _).grown hgr (by have := HB2.out.size; simp; omega) (fun g e => (HO2.out.lt g e).1), by rw [List.length_append, List.map_append]; exact hown, HE.out, by simp⟩)
                      have HLT := hide hlt
                      clear hown hgr hk2
                      go_wp2_with fail
                      go_roundw
                      case rel => exact ⟨qs.length + 1, _, by go_num, HLT.out, HI4.out⟩
                      case measure => have := HLT.out; simp [intOf]; omega
                · have hkk : qs.length = ws.length := by omega
                  have d3 : decide (qs.length < ws.length) = false := decide_eq_false (by omega)
                  have d3' : decide ((qs.length : Int) < (ws.length : Int)) = false := decide_eq_false (by omega)
                  have hqs : quotesT ws = some qs := by
                    rw [HI.out.eq, hkk, List.drop_length, quotesT]; simp [preQ]
                  have HQS := hide hqs
                  obtain ⟨gq, cq, hvq, hgq1, hgq2⟩ := own_some' HI.out.own (by have h1 := HWQ.out; have h2 := HI.out.len; omega)
                  simp only [Value.slice.injEq, true_and] at hvq
                  obtain ⟨rfl, rfl⟩ := hvq
                  have HJL := hide (Nat.le_trans (join_le qs) (quotes_len ws qs hqs).2)
                  have HN0 := hide (heapB HI.out.bl HNB.out)
                  have HQL := hide hk
                  have HQC := hide (own_cells' HI.out.own)
                  have HRP := hide (Try.strings_Repeat ⟨#[32, 32, 32, 32]⟩ d wr (by omega) (by show 4 * d ≤ _; omega))
                  have hre : (Lib.repeatL (⟨#[32, 32, 32, 32]⟩ : ByteArray).data.toList d) = indT d := repeat_ind d
                  rw [hre] at HRP
                  generalize hbi : (⟨(indT d).toArray⟩ : ByteArray) = bi at HRP
                  have hTi : T bi = indT d := by rw [← hbi]; rfl
                  have hsi : bi.size ≤ 128 := by rw [← T_len, hTi]; simp [indT]; omega
                  have HTI := hide hTi
                  clear hbi hTi
                  have HCV := hide (own_capq HI.out.own)
                  clear hqs hre hkk hk hge
                  go_wp2_with fail
                  refine HRP.out.mono ?_
                  rintro e w5 ⟨rfl, hb5⟩
                  have HB5 := hide (below_lo HBK.out hb5 HSK.out)
                  have HD5 := hide (HDK.out.below hb5)
                  have HN5 := hide (heapB hb5 HN0.out)
                  have HS5 := hide (Nat.le_trans HSK.out hb5.size)
                  have HJ := hide (Try.strings_Join gq 0 cv (qs.map fun q => (⟨q.toArray⟩ : ByteArray)) ⟨#[32]⟩ w5 (by
                    intro j x hj
                    rw [List.getElem?_map] at hj
                    obtain ⟨q, hq, rfl⟩ := Option.map_eq_some_iff.1 hj
                    have := HQC.out j (.string ⟨q.toArray⟩) (by rw [List.getElem?_map, hq]; rfl)
                    rw [Addr.add_lit] at this
                    exact cellB hb5 this) (Nat.lt_of_lt_of_le hgq2 hb5.size) (by rw [List.length_map]; have h1 := HQL.out; omega) (by rw [List.length_map]; exact HCV.out) (by
                    have h1 := HJL.out
                    have h2 := HWT.out
                    rw [map_data]
                    show (Lib.join qs [32]).length ≤ _
                    omega))
                  rw [map_data, show (⟨#[32]⟩ : ByteArray).data.toList = [32] from rfl, List.length_map] at HJ
                  generalize hbj : (⟨(Lib.join qs [32]).toArray⟩ : ByteArray) = bj at HJ
                  have hTj : T bj = Lib.join qs [32] := by rw [← hbj]; rfl
                  have hsj : bj.size ≤ wsW ws := by rw [← T_len, hTj]; exact HJL.out
                  have hww : wsW ws ≤ 4398046511104 := by have := HWT.out; omega
                  have HTJ := hide hTj
                  clear hbj hTj
                  clear hb5 HRP
                  go_wp2_with fail
                  refine HJ.out.mono ?_
                  rintro e w6 ⟨rfl, hb6⟩
                  have HB6 := hide (below_lo HB5.out hb6 HS5.out)
                  have HD6 := hide (HD5.out.below hb6)
                  have HN6 := hide (heapB hb6 HN5.out)
                  have HS6 := hide (Nat.le_trans HS5.out hb6.size)
                  have HWR := hide (wstr_any (bi ++ bj) HD6.out (by rw [ByteArray.size_append]; have h2 := HWT.out; omega) HS6.out)
                  rw [T_append, HTI.out, HTJ.out] at HWR
                  clear hb6 HJ
                  go_wp2_with fail
                  refine HWR.out.mono ?_
                  rintro e w7 ⟨rfl, hd7, hb7, ho7⟩
                  have HB7 := hide (below_two HB6.out hb7)
                  have HN7 := hide (others_row ho7 HN6.out (by have := HSZ.out.2; omega) (by decide))
                  have n0 := cell_heap (j := 0) HN7.out rfl
                  have n1 := cell_heap (j := 1) HN7.out rfl
                  have n2 := cell_heap (j := 2) HN7.out rfl
                  have n3 := cell_heap (j := 3) HN7.out rfl
                  have HS7 := hide (Nat.le_trans HS6.out hb7.size)
                  have HD7 := hide hd7
                  have HJ2 := hide (show (Lib.join qs [32]).length ≤ wsW ws ∧ (indT d).length ≤ 128 from ⟨HJL.out, by simp [indT]; omega⟩)
                  clear hd7 hb7 ho7 HWR
                  have HW8 := hide (wstr_any (⟨#[32, 123, 10]⟩ : ByteArray) HD7.out (by have h1 := HJ2.out; have h2 := HWT.out; show _ + 3 ≤ _; simp at h2 ⊢; omega) HS7.out)
                  go_wp2_with fail
                  refine HW8.out.mono ?_
                  rintro e w8 ⟨rfl, hd8, hb8, ho8⟩
                  have HB8 := hide (below_two HB7.out hb8)
                  have HN8 := hide (others_row ho8 HN7.out (by have := HSZ.out.2; omega) (by decide))
                  have m2 := cell_heap (j := 2) HN8.out rfl
                  have m3 := cell_heap (j := 3) HN8.out rfl
                  have HS8 := hide (Nat.le_trans HS7.out hb8.size)
                  have hd8' : Bld Bx b (l ++ o ++ (indT d ++ Lib.join qs [32]) ++ [32, 123, 10]) w8 := hd8
                  have HD8 := hide hd8'
                  have HK8 := hide (src_keep HKS.out (fun a ha => HB8.out.block _ (HD.out _ (HKA.out a ha))))
                  have HF8 := hide (HKF.out.keep (fun q hq => HB8.out.block q (HD.out q hq)))
                  have HREC := hide (HIH.out K.nodes HNO.out.1 K rfl (d + 1) Ak ck ys _ D w8 HK8.out HF8.out HD.out (fun a ha => HD.out _ (HKA.out a ha)) hd8' HS8.out (by have := HD0.out; omega) (by have h1 := HJ2.out; have h2 := HWT.out; simp at h2 ⊢; omega) HWW.out.2.1 hB0 (cell_lo HB8.out (a := ⟨0, 0, none⟩) hB0 HM.out))
                  rw [show ((d + 1 : Nat) : Int) = (d : Int) + 1 from rfl] at HREC
                  clear hd8 hd8' hb8 ho8 n0 n1 n2 n3
                  go_wp2_with fail
                  refine HREC.out.mono ?_
                  rintro e w9 ⟨hb9, hh⟩
                  cases hk9 : writeF (d + 1) K with
                  | none =>
                    rw [hk9] at hh
                    obtain ⟨rfl, l', hl'⟩ := hh
                    have HE := hide (show writeF d F = none from by rw [HX.out.eq, write_kno hk9]; rfl)
                    have HB9 := hide (below_two HB8.out hb9)
                    have HL9 := hide hl'
                    clear hk9 hb9 hl'
                    go_wp2_with fail
                    (try simp only [Exit.inBlock, Exit.then])
                    go_ret
                    rw [HE.out]
                    exact ⟨HB9.out, rfl, _, HL9.out⟩
                  | some k9 =>
                    rw [hk9] at hh
                    obtain ⟨rfl, hd9⟩ := hh
                    have HB9 := hide (below_two HB8.out hb9)
                    have HS9 := hide (Nat.le_trans HS8.out hb9.size)
                    have HK9 := hide (write_wt K (d + 1) k9 hk9 (by have := HD0.out; omega))
                    have HW9 := hide (wstr_any (bi ++ (⟨#[125, 10]⟩ : ByteArray)) hd9 (by rw [ByteArray.size_append]; have h1 := HJ2.out; have h2 := HWT.out; have h3 := HK9.out; show _ + (bi.size + 2) ≤ _; simp at h2 ⊢; omega) HS9.out)
                    rw [T_append, HTI.out] at HW9
                    have HKE := hide hk9
                    clear hk9 hb9 hd9
                    go_wp2_with fail
                    refine HW9.out.mono ?_
                    rintro e wa ⟨rfl, hda, hba, hoa⟩
                    have HF := hide (show WL Bx b l w wa d F (i + 1) R (o ++ (indT d ++ Lib.join qs [32] ++ [32, 123, 10] ++ k9 ++ (indT d ++ [125, 10]))) xs D from ⟨below_two HB9.out hba, by
                      have e : l ++ (o ++ (indT d ++ Lib.join qs [32] ++ [32, 123, 10] ++ k9 ++ (indT d ++ [125, 10]))) = l ++ o ++ (indT d ++ Lib.join qs [32]) ++ [32, 123, 10] ++ k9 ++ (indT d ++ T (⟨#[125, 10]⟩ : ByteArray)) := by simp [T]
                      rw [e]
                      exact hda, HRF.out, by have := HLEN.out; omega, HNO.out.2, by rw [HX.out.eq, write_blk (by have := HWQ.out; omega) HD0.out HQS.out HKE.out, pre_pre], by
                      have h1 := HJ2.out
                      have h2 := HWT.out
                      have h3 := HK9.out
                      simp at h1 h2 ⊢
                      omega, HWW.out.2.2⟩)
                    clear hda hba hoa
                    go_wp2_with fail
                    go_roundw
                    case rel => exact ⟨i + 1, R, _, by go_num, HF.out⟩
                    case measure => have := HLEN.out; simp [intOf]; omega
            · have e1 : decide (32 ≤ d) = true := decide_eq_true (by omega)
              have e1' : decide ((32 : Int) ≤ (d : Int)) = true := decide_eq_true (by omega)
              have HE := hide (show writeF d F = none from by rw [HX.out.eq, write_bad (.inr (.inr ⟨rfl, by omega⟩))]; rfl)
              have HB1 := hide (fun o => below_lo HX.out.bl (bel_one wr o) (Nat.le_trans hBx HX.out.bl.size))
              have HBD := hide (fun o => HX.out.bd.below (bel_one wr o))
              clear hd0 hw0
              go_wp2_with fail
              (try simp only [Exit.inBlock, Exit.then])
              go_ret
              rw [HE.out]
              exact ⟨HB1.out _, rfl, _, HBD.out _⟩
end Go.Proofs.Ytihmmmodimionaa.Tr
/- Print; Find and Merge on nothing. -/
namespace Go.Proofs.Ytihmmmodimionaa.Tr
open Go.RowKit Go.Proofs.Ytihmmmodimionaa Go.Proofs.Ytihmmmodimionaa.Lx

def printV (r : Option (List UInt8)) : Value := match r with
  | some o => .tuple #[.string ⟨o.toArray⟩, .int .i64 0]
  | none => .tuple #[.string ⟨#[]⟩, .int .i64 1]
set_option maxRecDepth 100000 in
theorem print_any (F : Fo) (A : Option Addr) (c : Nat) (xs : List Value) (D : Nat → Prop) (w : World) (hs : Src w A F.len c 4 xs) (hf : FoV w D F xs) (hD : ∀ q, D q → q < w.heap.size) (hA : ∀ a, A = some a → a.block < w.heap.size) (hwt : wtF F ≤ 4398046511104) (hwb : WB F) (m : Int) (hm : w.cell? ⟨0, 0, none⟩ = some (.int .i64 m)) :
    Calls Try.prog 13 #[.slice A F.len c] w fun e w' => e = .returned (printV (writeF 0 F)) ∧ Below w.heap.size w w' := by
  have h0 : 0 < w.heap.size := by
    rcases Nat.eq_zero_or_pos w.heap.size with h | h
    · unfold World.cell? at hm
      rw [Array.getElem?_eq_none (by omega)] at hm
      cases hm
    · exact h
  have hb1 := bel_one w (.cells #[.pointer none, .slice none 0 0] 84)
  have hB : Bld w.heap.size w.heap.size [] (w.alloc (.cells #[.pointer none, .slice none 0 0] 84)) := .inl ⟨Nat.le_refl _, .slice none 0 0, heap_new w _, ⟨rfl, .inl ⟨rfl, rfl⟩⟩, by simp [Value.ownBlock]⟩
  have HW := hide (write_any w.heap.size w.heap.size m F.nodes F rfl 0 A c xs [] D (w.alloc (.cells #[.pointer none, .slice none 0 0] 84)) (src_keep hs (fun a ha => hb1.block _ (hA a ha))) (hf.keep (fun q hq => hb1.block q (hD q hq))) hD hA hB (by simp) (by omega) (by simpa using hwt) hwb h0 (cellB hb1 hm))
  have HB1 := hide hb1
  clear hs hf hD hA hwt hwb hm hB hb1
  go_enter Try.func13, Try.ntmps13
  go_wp2_with fail
  refine HW.out.mono ?_
  rintro e w2 ⟨hb2, hh⟩
  have HB2 := hide (below_two HB1.out hb2)
  cases hr : writeF 0 F with
  | none =>
    rw [hr] at hh
    have HR := hide hr
    obtain ⟨rfl, _⟩ := hh
    clear hb2 hr
    go_wp2_with fail
    go_returns
    exact ⟨by rw [HR.out]; rfl, HB2.out⟩
  | some o =>
    rw [hr] at hh
    have HR := hide hr
    obtain ⟨rfl, hd⟩ := hh
    have HS := hide ((Any.Builder_String_any_f Try.lays169 Try.Builder_Extra_169 w.heap.size w.heap.size ([] ++ o) w2 hd HB2.out.size))
    clear hb2 hr hd
    go_wp2_with fail
    refine HS.out.mono ?_
    rintro e w3 ⟨rfl, _, hb3⟩
    have HB3 := hide (below_two HB2.out hb3)
    clear hb3
    go_wp2_with fail
    go_returns
    exact ⟨by rw [HR.out]; rfl, HB3.out⟩
set_option maxRecDepth 100000 in
theorem find_nil (w : World) : Calls Try.prog 14 #[.slice none 0 0, .slice none 0 0] w fun e w' => e = .returned (.tuple #[.slice none 0 0, .bool false]) ∧ w = w' := by
  go_enter Try.func14, Try.ntmps14
  go_wp2_with fail
  go_loopw [10] (fun j wr => j = .int .i64 0 ∧ wr = w) (fun j _ => 0)
  case atStart => exact ⟨rfl, rfl⟩
  case round =>
    obtain ⟨rfl, rfl⟩ := hrel
    go_wp2_with fail
    go_returns
    exact ⟨rfl, rfl⟩
set_option maxRecDepth 100000 in
theorem merge_nil (w : World) : Calls Try.prog 15 #[.slice none 0 0] w fun e w' => e = .returned (.slice none 0 0) ∧ w = w' := by
  go_enter Try.func15, Try.ntmps15
  go_wp2_with fail
  go_loopw [3, 10] (fun v j wr => v = .slice none 0 0 ∧ j = .int .i64 0 ∧ wr = w) (fun _ j _ => 0)
  case atStart => exact ⟨rfl, rfl, rfl⟩
  case round =>
    obtain ⟨rfl, rfl, rfl⟩ := hrel
    go_wp2_with fail
    go_loopw [44] (fun j wx => j = .int .i64 0 ∧ wx = wr) (fun j _ => 0)
    case atStart => exact ⟨rfl, rfl⟩
    case round =>
      obtain ⟨rfl, hw⟩ := hrel
      subst hw
      go_wp2_with fail
      go_ret
      exact ⟨rfl, rfl⟩
end Go.Proofs.Ytihmmmodimionaa.Tr
/- What the document's reading answers, and that it is the reading's own; in plain words, no program is in sight. -/
namespace Go.Proofs.Ytihmmmodimionaa.Tr
open Go.RowKit Go.Proofs.Ytihmmmodimionaa Go.Proofs.Ytihmmmodimionaa.Lx

structure RowD where
  deep : Nat
  ws : List ByteArray
  ps : List (Int × Int)
  op : Bool
/-- statements as rows -/
def rowsF : Nat → Fo → List RowD
  | _, .nil => []
  | d, .cons ws ps b K R => ⟨d, ws, ps, b⟩ :: (rowsF (d + 1) K ++ rowsF d R)
theorem rowsF_app (d : Nat) : ∀ F G : Fo, rowsF d (F.app G) = rowsF d F ++ rowsF d G
  | .nil, _ => rfl
  | .cons ws ps b K R, G => by rw [Fo.app, rowsF, rowsF, rowsF_app d R]; simp
abbrev Pl := Int × Int
inductive RR where
  | ok (rows : List RowD) (br : List Pl) (rest : List BTok) : RR
  | err (e l c : Int) : RR
def leafR (d : Nat) (n : List BTok) : List BTok → List RowD
  | [] => []
  | x :: xs => ⟨d, n.map BTok.b ++ [x.b], n.map BTok.pos ++ [x.pos], false⟩ :: leafR d n xs
theorem leafR_rows (d : Nat) (n : List BTok) : ∀ l : List BTok, rowsF d (leafs n l) = leafR d n l
  | [] => rfl
  | x :: xs => by rw [leafs, rowsF, leafR, leafR_rows d n xs]; simp [rowsF]
theorem leafR_len (d : Nat) (n : List BTok) : ∀ l : List BTok, (leafR d n l).length = l.length
  | [] => rfl
  | _ :: xs => by rw [leafR, List.length_cons, leafR_len d n xs]; rfl
def endR (rows : List RowD) (br : List Pl) (first : Pl) (n : List BTok) (all : List RowD) : List BTok → RR
  | [] => .err 71 first.1 first.2
  | t :: ts =>
    if t.k = 4 then .ok (rows ++ (if all.length = 0 then [⟨br.length, n.map BTok.b, n.map BTok.pos, false⟩] else all)) br ts
    else if t.k = 2 ∧ all.length = 0 then
      if 32 ≤ br.length then .err 140 t.l t.c
      else .ok (rows ++ [⟨br.length, n.map BTok.b, n.map BTok.pos, true⟩]) (t.pos :: br) ts
    else .err 130 t.l t.c
def oneR (rows : List RowD) (br : List Pl) (first : Pl) (toks : List BTok) : RR :=
  match behindT toks with
  | [] => .err 71 first.1 first.2
  | t :: ts =>
    if t.k = 5 then
      match behindT ts with
      | [] => .err 71 first.1 first.2
      | u :: us => if u.k = 6 ∧ (wordsT ts).length ≠ 0 then endR rows br first (wordsT toks) (leafR br.length (wordsT toks) (wordsT ts)) us else .err 130 u.l u.c
    else endR rows br first (wordsT toks) [] (t :: ts)
def refR : Nat → List RowD → List Pl → List BTok → RR
  | 0, _, _, _ => .err 0 0 0
  | _ + 1, rows, br, [] => match br with
    | [] => .ok rows [] []
    | o :: _ => .err 71 o.1 o.2
  | f + 1, rows, br, t :: ts =>
    if t.k = 1 then
      match oneR rows br t.pos (t :: ts) with
      | .ok rows' br' r => refR f rows' br' r
      | .err e l c => .err e l c
    else if t.k = 3 ∧ br ≠ [] then refR f rows br.tail ts
    else .err 130 t.l t.c
theorem endR_rest {rows : List RowD} {br : List Pl} {first : Pl} {n : List BTok} {all : List RowD} {toks : List BTok} {rows' : List RowD} {br' : List Pl} {r : List BTok} (h : endR rows br first n all toks = .ok rows' br' r) : r.length < toks.length := by
  cases toks with
  | nil => cases h
  | cons t ts =>
    rw [endR] at h
    by_cases k4 : t.k = 4
    · rw [if_pos k4] at h
      cases h
      simp
    · rw [if_neg k4] at h
      by_cases k2 : t.k = 2 ∧ all.length = 0
      · rw [if_pos k2] at h
        by_cases hd : 32 ≤ br.length
        · rw [if_pos hd] at h; cases h
        · rw [if_neg hd] at h; cases h; simp
      · rw [if_neg k2] at h; cases h
theorem behind_one {t : BTok} {ts : List BTok} (h : t.k = 1) : behindT (t :: ts) = behindT ts := by rw [behindT, if_pos h]
theorem oneR_rest {rows : List RowD} {br : List Pl} {first : Pl} {toks : List BTok} {rows' : List RowD} {br' : List Pl} {r : List BTok} (h : oneR rows br first toks = .ok rows' br' r) : r.length < toks.length := by
  have hb := behind_le toks
  unfold oneR at h
  split at h
  · cases h
  · rename_i t ts e
    rw [e] at hb
    split at h
    · have hb2 := behind_le ts
      split at h
      · cases h
      · rename_i u us e2
        rw [e2] at hb2
        split at h
        · have := endR_rest h
          simp at hb hb2
          omega
        · cases h
    · have := endR_rest h
      omega
/-- enough fuel is enough -/
theorem refR_fuel : ∀ (f f' : Nat) (rows : List RowD) (br : List Pl) (toks : List BTok), toks.length < f → toks.length < f' → refR f rows br toks = refR f' rows br toks := by
  intro f
  induction f with
  | zero => intro f' rows br toks h; omega
  | succ f ih =>
    intro f' rows br toks h h'
    obtain ⟨g, rfl⟩ : ∃ g, f' = g + 1 := ⟨f' - 1, by omega⟩
    cases toks with
    | nil => rfl
    | cons t ts =>
      simp only [List.length_cons] at h h'
      unfold refR
      split
      · cases ho : oneR rows br t.pos (t :: ts) with
        | err e l c => rfl
        | ok rows' br' r =>
          have := oneR_rest ho
          simp only [List.length_cons] at this
          exact ih g rows' br' r (by omega) (by omega)
      · split
        · exact ih g rows br.tail ts (by omega) (by omega)
        · rfl
theorem tailS_rest {rec : Pl → List BTok → PR} {deep : Nat} {first : Pl} {n : List BTok} {all : Fo} {toks : List BTok} {F : Fo} {r : List BTok} (hr : ∀ o ts K q, rec o ts = .ok K q → q.length ≤ ts.length) (h : tailS rec deep first n all toks = .ok F r) : r.length < toks.length := by
  cases toks with
  | nil => cases h
  | cons t ts =>
    rw [tailS] at h
    by_cases k4 : t.k = 4
    · rw [if_pos k4] at h
      injection h with _ h
      rw [← h]
      simp
    · rw [if_neg k4] at h
      by_cases k2 : t.k = 2 ∧ all.len = 0
      · rw [if_pos k2] at h
        by_cases hd : deep = 32
        · rw [if_pos hd] at h; cases h
        · rw [if_neg hd] at h
          cases e : rec t.pos ts with
          | err e' l c => rw [e] at h; cases h
          | ok K q =>
            rw [e] at h
            cases h
            have := hr _ _ _ _ e
            simp; omega
      · rw [if_neg k2] at h; cases h
theorem stmtF_rest {rec : Pl → List BTok → PR} {deep : Nat} {first : Pl} {toks : List BTok} {F : Fo} {r : List BTok} (hr : ∀ o ts K q, rec o ts = .ok K q → q.length ≤ ts.length) (h : stmtF rec deep first toks = .ok F r) : r.length < toks.length := by
  have hb := behind_le toks
  unfold stmtF at h
  split at h
  · cases h
  · rename_i t ts e
    rw [e] at hb
    split at h
    · have hb2 := behind_le ts
      split at h
      · cases h
      · rename_i u us e2
        rw [e2] at hb2
        split at h
        · have := tailS_rest hr h
          simp at hb hb2
          omega
        · cases h
    · have := tailS_rest hr h
      omega
theorem listF_rest : ∀ (f deep : Nat) (op : Pl) (toks : List BTok) (F : Fo) (r : List BTok), listF f deep op toks = .ok F r → r.length ≤ toks.length := by
  intro f
  induction f with
  | zero => intro deep op toks F r h; cases h
  | succ f ih =>
    intro deep op toks F r h
    cases toks with
    | nil =>
      unfold listF at h
      split at h
      · cases h; simp
      · cases h
    | cons t ts =>
      unfold listF at h
      split at h
      · split at h
        · cases h
        · cases h; simp
      · split at h
        · split at h
          · rename_i G q e
            have h1 := stmtF_rest (fun o ts K q h => ih _ _ _ _ _ h) e
            cases h2 : listF f deep op q with
            | err e l c => rw [h2] at h; cases h
            | ok H q' =>
              rw [h2] at h
              cases h
              have := ih _ _ _ _ _ h2
              omega
          · cases h
        · cases h
/-- one statement: by its reading, and by the document's -/
theorem stmt_ref {f : Nat} {rows : List RowD} {br : List Pl} {first : Pl} {toks : List BTok} {rec : Pl → List BTok → PR} (hrec : br.length < 32 → ∀ (o : Pl) (ts : List BTok) (rows : List RowD), ts.length < toks.length → match rec o ts with
      | .err e l c => refR (ts.length + 1) rows (o :: br) ts = .err e l c
      | .ok K r => refR (ts.length + 1) rows (o :: br) ts = refR (ts.length + 1) (rows ++ rowsF (br.length + 1) K) br r ∧ r.length < ts.length) (hbr : br.length ≤ 32) (hf : toks.length ≤ f) :
    (match oneR rows br first toks with
      | .ok rows' br' r => refR f rows' br' r
      | .err e l c => .err e l c) = (match stmtF rec br.length first toks with
      | .ok F r => refR f (rows ++ rowsF br.length F) br r
      | .err e l c => .err e l c) := by
  have key : ∀ (n : List BTok) (all : Fo) (allR : List RowD) (ts : List BTok), rowsF br.length all = allR → allR.length = all.len → ts.length ≤ toks.length →
      (match endR rows br first n allR ts with
        | .ok rows' br' r => refR f rows' br' r
        | .err e l c => .err e l c) = (match tailS rec br.length first n all ts with
        | .ok F r => refR f (rows ++ rowsF br.length F) br r
        | .err e l c => .err e l c) := by
    intro n all allR ts h1 h2 h3
    cases ts with
    | nil => rfl
    | cons t ts =>
      simp only [List.length_cons] at h3
      rw [endR, tailS, h2]
      by_cases k4 : t.k = 4
      · rw [if_pos k4, if_pos k4]
        by_cases h0 : all.len = 0
        · rw [if_pos h0, if_pos h0]
          simp [rowsF]
        · rw [if_neg h0, if_neg h0]
          show refR f (rows ++ allR) br ts = refR f (rows ++ rowsF br.length all) br ts
          rw [h1]
      · rw [if_neg k4, if_neg k4]
        by_cases k2 : t.k = 2 ∧ all.len = 0
        · rw [if_pos k2, if_pos k2]
          by_cases hd : br.length = 32
          · rw [if_pos (by omega), if_pos hd]
          · rw [if_neg (by omega), if_neg hd]
            have h := hrec (by omega) t.pos ts (rows ++ [⟨br.length, n.map BTok.b, n.map BTok.pos, true⟩]) (by omega)
            simp only
            rw [refR_fuel f (ts.length + 1) _ _ ts (by omega) (by omega)]
            cases hr : rec t.pos ts with
            | err e l c =>
              rw [hr] at h
              exact h
            | ok K r =>
              rw [hr] at h
              simp only at h ⊢
              rw [h.1, refR_fuel (ts.length + 1) f _ _ r (by omega) (by omega)]
              simp [rowsF, List.append_assoc]
        · rw [if_neg k2, if_neg k2]
  have hb := behind_le toks
  unfold oneR stmtF
  cases e : behindT toks with
  | nil => rfl
  | cons t ts =>
    rw [e] at hb
    simp only
    by_cases k5 : t.k = 5
    · rw [if_pos k5, if_pos k5]
      have hb2 := behind_le ts
      cases e2 : behindT ts with
      | nil => rfl
      | cons u us =>
        rw [e2] at hb2
        simp only
        by_cases k6 : u.k = 6 ∧ (wordsT ts).length ≠ 0
        · rw [if_pos k6, if_pos k6]
          exact key _ _ _ us (leafR_rows _ _ _) (by rw [leafR_len, leafs_len]) (by simp at hb hb2; omega)
        · rw [if_neg k6, if_neg k6]
    · rw [if_neg k5, if_neg k5]
      exact key _ _ _ (t :: ts) rfl rfl (by omega)
/-- a list: by its reading, and by the document's -/
theorem list_ref : ∀ (f : Nat) (op : Pl) (rows : List RowD) (br : List Pl) (toks : List BTok), toks.length < f → (br = [] ∨ ∃ b, br = op :: b) → br.length ≤ 32 →
    match listF f br.length op toks with
    | .err e l c => refR (toks.length + 1) rows br toks = .err e l c
    | .ok F r => (br = [] → r = [] ∧ refR (toks.length + 1) rows br toks = .ok (rows ++ rowsF br.length F) [] []) ∧ (br ≠ [] → r.length < toks.length ∧ refR (toks.length + 1) rows br toks = refR (toks.length + 1) (rows ++ rowsF br.length F) br.tail r) := by
  intro f
  induction f with
  | zero => intro op rows br toks h; omega
  | succ f ih =>
    intro op rows br toks h hop hbr
    cases toks with
    | nil =>
      unfold listF
      rcases hop with rfl | ⟨b, rfl⟩
      · simp [refR, rowsF]
      · simp [refR]
    | cons t ts =>
      simp only [List.length_cons] at h
      unfold listF
      by_cases k3 : t.k = 3
      · rw [if_pos k3]
        rcases hop with rfl | ⟨b, rfl⟩
        · simp [refR, k3]
        · simp only [List.length_cons, Nat.add_eq_zero_iff, Nat.succ_ne_self, and_false, if_false]
          refine ⟨fun h => absurd h (by simp), fun _ => ⟨by simp, ?_⟩⟩
          conv => lhs; unfold refR
          rw [if_neg (by rw [k3]; decide), if_pos ⟨k3, by simp⟩]
          simp only [rowsF, List.append_nil, List.tail_cons]
          exact refR_fuel _ _ _ _ _ (by omega) (by omega)
      · rw [if_neg k3]
        by_cases k1 : t.k = 1
        · rw [if_pos k1]
          have hs := stmt_ref (f := ts.length + 1) (rows := rows) (br := br) (first := t.pos) (toks := t :: ts) (rec := fun o r => listF f (br.length + 1) o r) (fun h32 o ts' rows' hl => by
            simp only [List.length_cons] at hl
            have := ih o rows' (o :: br) ts' (by omega) (.inr ⟨br, rfl⟩) (by simp; omega)
            simp only [List.length_cons] at this
            cases hq : listF f (br.length + 1) o ts' with
            | err e l c => rw [hq] at this; exact this
            | ok K r =>
              rw [hq] at this
              have := this.2 (by simp)
              exact ⟨this.2, this.1⟩) (by omega) (by simp)
          have hu : refR ((t :: ts).length + 1) rows br (t :: ts) = (match oneR rows br t.pos (t :: ts) with
              | .ok rows' br' r => refR (ts.length + 1) rows' br' r
              | .err e l c => .err e l c) := by
            conv => lhs; unfold refR
            rw [if_pos k1]
            rfl
          rw [hu, hs]
          cases hst : stmtF (fun o r => listF f (br.length + 1) o r) br.length t.pos (t :: ts) with
          | err e l c => rfl
          | ok F r =>
            have hlr := stmtF_rest (fun o ts K q h => listF_rest _ _ _ _ _ _ h) hst
            simp only [List.length_cons] at hlr
            have h2 := ih op (rows ++ rowsF br.length F) br r (by omega) hop hbr
            simp only
            cases hq : listF f br.length op r with
            | err e l c =>
              rw [hq] at h2
              simp only [putF]
              rw [refR_fuel (ts.length + 1) (r.length + 1) _ _ r (by omega) (by omega)]
              exact h2
            | ok G r' =>
              rw [hq] at h2
              simp only [putF]
              refine ⟨fun hb => ?_, fun hb => ?_⟩
              · have h3 := h2.1 hb
                refine ⟨h3.1, ?_⟩
                rw [refR_fuel (ts.length + 1) (r.length + 1) _ _ r (by omega) (by omega), h3.2, rowsF_app, List.append_assoc]
              · have h3 := h2.2 hb
                refine ⟨by simp; omega, ?_⟩
                rw [refR_fuel (ts.length + 1) (r.length + 1) _ _ r (by omega) (by omega), h3.2, rowsF_app, List.append_assoc]
                exact refR_fuel _ _ _ _ _ (by omega) (by simp; omega)
        · rw [if_neg k1]
          simp [refR, k1, k3]
end Go.Proofs.Ytihmmmodimionaa.Tr
/- The reader of statements: list, by what statement does. -/
namespace Go.Proofs.Ytihmmmodimionaa.Tr
open Go.RowKit Go.Proofs.Ytihmmmodimionaa Go.Proofs.Ytihmmmodimionaa.Lx

theorem infoN : (Try.prog.info? 44).map (fun i => (i.zero, i.size, i.bytes)) = some (some (.agg #[.slice none 0 0, .slice none 0 0, .bool false, .slice none 0 0]), 4, 80) := by kernel_rfl
/-- statements in a row of the call's own -/
structure Lo (w wr : World) (v : Value) (F : Fo) (xs : List Value) (B : Nat → Prop) : Prop where
  own : wr.ownsRow w.heap.size 44 4 v F.len xs
  fo : FoV wr B F xs
  hB : ∀ b, B b → w.heap.size ≤ b ∧ b < wr.heap.size ∧ v.ownBlock ≠ some b
theorem lo_start (w : World) : Lo w w (.slice none 0 0) .nil [] (fun _ => False) := ⟨⟨rfl, .inl ⟨rfl, rfl⟩⟩, rfl, fun b h => by cases h⟩
theorem Lo.grow {w wr w' : World} {v : Value} {F : Fo} {xs : List Value} {B : Nat → Prop} (h : Lo w wr v F xs B) {row : Option Nat} (hg : wr.grownBy w' row) (hr : ∀ b, row = some b → b < w.heap.size) : Lo w w' v F xs B := by
  refine ⟨h.own.kept hg ?_, h.fo.keep (fun b hb => hg.block b (h.hB b hb).2.1 (fun e => ?_)), fun b hb => ⟨(h.hB b hb).1, Nat.lt_of_lt_of_le (h.hB b hb).2.1 hg.size, (h.hB b hb).2.2⟩⟩
  · cases hv : v.ownBlock with
    | none => exact .inl rfl
    | some g =>
      refine .inr (fun e => ?_)
      have h1 := hr g e.symm
      have h2 := (h.own.lt g hv).1
      omega
  · have h1 := hr b e.symm
    have h2 := (h.hB b hb).1
    omega
theorem Lo.base {w w0 wr : World} {v : Value} {F : Fo} {xs : List Value} {B : Nat → Prop} (h : Lo w wr v F xs B) (hb : w0.heap.size ≤ w.heap.size) : Lo w0 wr v F xs B :=
  ⟨own_base h.own hb, h.fo, fun b hb' => ⟨Nat.le_trans hb (h.hB b hb').1, (h.hB b hb').2⟩⟩
/-- .. a statement's row behind it -/
theorem Lo.app {w w1 w2 w3 : World} {v u v' : Value} {F G : Fo} {xs ys : List Value} {B D : Nat → Prop} (h : Lo w w2 v F xs B) (k : Lo w1 w2 u G ys D) (hw : ∀ g, v.ownBlock = some g → g < w1.heap.size) (hww : w.heap.size ≤ w1.heap.size) (ho : w3.ownsRow w.heap.size 44 4 v' (F.len + G.len) (xs ++ ys)) (hg : w2.grownBy w3 v.ownBlock) (hk : v'.ownBlock = v.ownBlock ∨ v'.ownBlock = some w2.heap.size) : Lo w w3 v' (F.app G) (xs ++ ys) (fun b => B b ∨ D b) := by
  have hne : ∀ b, B b ∨ D b → v.ownBlock ≠ some b := by
    intro b hb e
    rcases hb with hb | hb
    · exact (h.hB b hb).2.2 e
    · have h1 := hw b e
      have h2 := (k.hB b hb).1
      omega
  have hlt : ∀ b, B b ∨ D b → b < w2.heap.size := by
    intro b hb
    rcases hb with hb | hb
    · exact (h.hB b hb).2.1
    · exact (k.hB b hb).2.1
  refine ⟨by rw [Fo.len_app]; exact ho, FoV.app ((h.fo.keep (fun b hb => ?_)).mono (fun b hb => .inl hb)) ((k.fo.keep (fun b hb => ?_)).mono (fun b hb => .inr hb)), fun b hb => ⟨?_, ?_, ?_⟩⟩
  · exact hg.block b (hlt b (.inl hb)) (fun e => hne b (.inl hb) e.symm)
  · exact hg.block b (hlt b (.inr hb)) (fun e => hne b (.inr hb) e.symm)
  · rcases hb with hb | hb
    · exact (h.hB b hb).1
    · have := (k.hB b hb).1; omega
  · exact Nat.lt_of_lt_of_le (hlt b hb) hg.size
  · rcases hk with e | e
    · rw [e]; exact hne b hb
    · rw [e]
      intro e'
      injection e' with e'
      have := hlt b hb
      omega
/-- rows of the call's own, all the way down: whose blocks lie in B -/
def FoS (w : World) (B : Nat → Prop) : Fo → List Value → Prop
  | .nil, xs => xs = []
  | .cons ws ps _ K R, xs => ∃ vw vp b vk ys xs' zw zp, xs = vw :: vp :: b :: vk :: xs' ∧ (w.ownsRow 0 9 1 vw ws.length zw ∧ ∀ g, vw.ownBlock = some g → B g) ∧ (w.ownsRow 0 24 2 vp ps.length zp ∧ ∀ g, vp.ownBlock = some g → B g) ∧ (w.ownsRow 0 44 4 vk K.len ys ∧ ∀ g, vk.ownBlock = some g → B g) ∧ FoS w B K ys ∧ FoS w B R xs'
theorem own_heap {w w' : World} {base size n : Nat} {e : TypeId} {v : Value} {xs : List Value} (h : w.ownsRow base e size v n xs) (hb : ∀ g, v.ownBlock = some g → w'.heap[g]? = w.heap[g]?) : w'.ownsRow base e size v n xs := by
  refine ⟨h.1, ?_⟩
  rcases h.2 with hn | ⟨g, cap, cur, rfl, h1, hg, rest⟩
  · exact .inl hn
  · exact .inr ⟨g, cap, cur, rfl, h1, (hb g rfl).trans hg, rest⟩
theorem FoS.keep {w w' : World} {B : Nat → Prop} : ∀ {F : Fo} {xs : List Value}, FoS w B F xs → (∀ b, B b → w'.heap[b]? = w.heap[b]?) → FoS w' B F xs
  | .nil, _, h, _ => h
  | .cons ws ps _ K R, xs, h, hb => by
    obtain ⟨vw, vp, b, vk, ys, xs', zw, zp, e, h1, h2, h3, h4, h5⟩ := h
    exact ⟨vw, vp, b, vk, ys, xs', zw, zp, e, ⟨own_heap h1.1 (fun g hg => hb g (h1.2 g hg)), h1.2⟩, ⟨own_heap h2.1 (fun g hg => hb g (h2.2 g hg)), h2.2⟩, ⟨own_heap h3.1 (fun g hg => hb g (h3.2 g hg)), h3.2⟩, FoS.keep h4 hb, FoS.keep h5 hb⟩
theorem FoS.mono {w : World} {B B' : Nat → Prop} : ∀ {F : Fo} {xs : List Value}, FoS w B F xs → (∀ b, B b → B' b) → FoS w B' F xs
  | .nil, _, h, _ => h
  | .cons ws ps _ K R, xs, h, hb => by
    obtain ⟨vw, vp, b, vk, ys, xs', zw, zp, e, h1, h2, h3, h4, h5⟩ := h
    exact ⟨vw, vp, b, vk, ys, xs', zw, zp, e, ⟨h1.1, fun g hg => hb g (h1.2 g hg)⟩, ⟨h2.1, fun g hg => hb g (h2.2 g hg)⟩, ⟨h3.1, fun g hg => hb g (h3.2 g hg)⟩, FoS.mono h4 hb, FoS.mono h5 hb⟩
theorem FoS.app {w : World} {B : Nat → Prop} : ∀ {F G : Fo} {xs ys : List Value}, FoS w B F xs → FoS w B G ys → FoS w B (F.app G) (xs ++ ys)
  | .nil, _, _, _, h, h' => by rw [show _ = [] from h]; exact h'
  | .cons ws ps _ K R, G, xs, ys, h, h' => by
    obtain ⟨vw, vp, b, vk, zs, xs', zw, zp, e, h1, h2, h3, h4, h5⟩ := h
    exact ⟨vw, vp, b, vk, zs, xs' ++ ys, zw, zp, by rw [e]; rfl, h1, h2, h3, h4, FoS.app h5 h'⟩
/-- statements in a row of the call's own, and so all that they hold -/
structure LoS (w wr : World) (v : Value) (F : Fo) (xs : List Value) (B : Nat → Prop) : Prop extends Lo w wr v F xs B where
  fs : FoS wr B F xs
theorem los_nil (w wr : World) : LoS w wr (.slice none 0 0) .nil [] (fun _ => False) := ⟨⟨⟨rfl, .inl ⟨rfl, rfl⟩⟩, rfl, fun b h => by cases h⟩, rfl⟩
theorem LoS.grow {w wr w' : World} {v : Value} {F : Fo} {xs : List Value} {B : Nat → Prop} (h : LoS w wr v F xs B) {row : Option Nat} (hg : wr.grownBy w' row) (hr : ∀ b, row = some b → b < w.heap.size) : LoS w w' v F xs B :=
  ⟨h.toLo.grow hg hr, h.fs.keep (fun b hb => hg.block b (h.hB b hb).2.1 (fun e => by have h1 := hr b e.symm; have h2 := (h.hB b hb).1; omega))⟩
theorem LoS.base {w w0 wr : World} {v : Value} {F : Fo} {xs : List Value} {B : Nat → Prop} (h : LoS w wr v F xs B) (hb : w0.heap.size ≤ w.heap.size) : LoS w0 wr v F xs B := ⟨h.toLo.base hb, h.fs⟩
theorem LoS.app {w w1 w2 w3 : World} {v u v' : Value} {F G : Fo} {xs ys : List Value} {B D : Nat → Prop} (h : LoS w w2 v F xs B) (k : LoS w1 w2 u G ys D) (hw : ∀ g, v.ownBlock = some g → g < w1.heap.size) (hww : w.heap.size ≤ w1.heap.size) (ho : w3.ownsRow w.heap.size 44 4 v' (F.len + G.len) (xs ++ ys)) (hg : w2.grownBy w3 v.ownBlock) (hk : v'.ownBlock = v.ownBlock ∨ v'.ownBlock = some w2.heap.size) : LoS w w3 v' (F.app G) (xs ++ ys) (fun b => B b ∨ D b) := by
  refine ⟨Lo.app h.toLo k.toLo hw hww ho hg hk, FoS.app ((h.fs.keep (fun b hb => hg.block b (h.hB b hb).2.1 (fun e => (h.hB b hb).2.2 e.symm))).mono (fun b hb => .inl hb)) ((k.fs.keep (fun b hb => hg.block b (k.hB b hb).2.1 (fun e => ?_))).mono (fun b hb => .inr hb))⟩
  have h1 := hw b e.symm
  have h2 := (k.hB b hb).1
  omega
/-- what list and statement hand back -/
def ListOut (N p : Nat) (w : World) (r : PR) (e' : Ending) (w' : World) : Prop :=
  Only p w w' ∧ match r with
  | .ok F rest => ∃ v A cap xs B, e' = .returned v ∧ LoS w w' v F xs B ∧ RdX w' p A cap rest 0 0 0
  | .err e l c => e ≠ 0 ∧ ∃ v A cap n xs ts, e' = .returned v ∧ w'.ownsRow w.heap.size 44 4 v n xs ∧ (∀ u ∈ xs, u.oneCell' = true) ∧ n ≤ N ∧ RdX w' p A cap ts e l c
theorem tailS_len {rec : Pl → List BTok → PR} {deep : Nat} {first : Pl} {n : List BTok} {all : Fo} {toks : List BTok} {F : Fo} {r : List BTok} (hr : ∀ o ts K q, rec o ts = .ok K q → q.length ≤ ts.length) (h : tailS rec deep first n all toks = .ok F r) : F.len + r.length ≤ max 1 all.len + toks.length - 1 := by
  cases toks with
  | nil => cases h
  | cons t ts =>
    rw [tailS] at h
    by_cases k4 : t.k = 4
    · rw [if_pos k4] at h
      injection h with h1 h2
      rw [← h1, ← h2]
      by_cases h0 : all.len = 0
      · rw [if_pos h0]; simp [Fo.len]; omega
      · rw [if_neg h0]; simp; omega
    · rw [if_neg k4] at h
      by_cases k2 : t.k = 2 ∧ all.len = 0
      · rw [if_pos k2] at h
        by_cases hd : deep = 32
        · rw [if_pos hd] at h; cases h
        · rw [if_neg hd] at h
          cases e : rec t.pos ts with
          | err e' l c => rw [e] at h; cases h
          | ok K q =>
            rw [e] at h
            injection h with h1 h2
            have := hr _ _ _ _ e
            rw [← h1, ← h2]
            simp [Fo.len]; omega
      · rw [if_neg k2] at h; cases h
theorem stmtF_len {rec : Pl → List BTok → PR} {deep : Nat} {first : Pl} {t : BTok} {ts : List BTok} {F : Fo} {r : List BTok} (hk : t.k = 1) (hr : ∀ o ts K q, rec o ts = .ok K q → q.length ≤ ts.length) (h : stmtF rec deep first (t :: ts) = .ok F r) : F.len + r.length ≤ (t :: ts).length := by
  have hb := congrArg List.length (words_behind (t :: ts))
  rw [wordsT, if_pos hk] at hb
  simp only [List.length_append, List.length_cons] at hb
  unfold stmtF at h
  split at h
  · cases h
  · rename_i x xs e
    rw [e] at hb
    simp only [List.length_cons] at hb
    split at h
    · have hb2 := congrArg List.length (words_behind xs)
      split at h
      · cases h
      · rename_i u us e2
        rw [e2] at hb2
        simp only [List.length_append, List.length_cons] at hb2
        split at h
        · have := tailS_len hr h
          rw [leafs_len] at this
          simp
          omega
        · cases h
    · have := tailS_len hr h
      simp [Fo.len] at this ⊢
      omega
theorem tailS_some {rec : Pl → List BTok → PR} {deep : Nat} {first : Pl} {n : List BTok} {all : Fo} {toks : List BTok} {F : Fo} {r : List BTok} (h : tailS rec deep first n all toks = .ok F r) : 1 ≤ F.len := by
  cases toks with
  | nil => cases h
  | cons t ts =>
    rw [tailS] at h
    by_cases k4 : t.k = 4
    · rw [if_pos k4] at h
      injection h with h1 h2
      rw [← h1]
      by_cases h0 : all.len = 0
      · rw [if_pos h0]; simp [Fo.len]
      · rw [if_neg h0]; omega
    · rw [if_neg k4] at h
      by_cases k2 : t.k = 2 ∧ all.len = 0
      · rw [if_pos k2] at h
        by_cases hd : deep = 32
        · rw [if_pos hd] at h; cases h
        · rw [if_neg hd] at h
          cases e : rec t.pos ts with
          | err e' l c => rw [e] at h; cases h
          | ok K q =>
            rw [e] at h
            injection h with h1 h2
            rw [← h1]
            simp [Fo.len]
      · rw [if_neg k2] at h; cases h
theorem stmtF_some {rec : Pl → List BTok → PR} {deep : Nat} {first : Pl} {toks : List BTok} {F : Fo} {r : List BTok} (h : stmtF rec deep first toks = .ok F r) : 1 ≤ F.len := by
  unfold stmtF at h
  split at h
  · cases h
  · split at h
    · split at h
      · cases h
      · split at h
        · exact tailS_some h
        · cases h
    · exact tailS_some h
/-- list, in its loop: all is well so far -/
structure LL (p : Nat) (w wr : World) (op : Pl) (v : Value) (F : Fo) (xs : List Value) (B : Nat → Prop) (A : Option Addr) (cap : Nat) (ts : List BTok) : Prop where
  o : Only p w wr
  box : wr.heap[w.heap.size]? = some (.cells #[.int .i64 op.1, .int .i64 op.2] 24 (0, 0))
  lo : LoS w wr v F xs B
  r : RdX wr p A cap ts 0 0 0
/-- .. or the first error has been met -/
structure LE (p : Nat) (w wr : World) (v : Value) (n : Nat) (xs : List Value) (A : Option Addr) (cap : Nat) (ts : List BTok) (e l c : Int) : Prop where
  ne : e ≠ 0
  o : Only p w wr
  own : wr.ownsRow w.heap.size 44 4 v n xs
  one : ∀ u ∈ xs, u.oneCell' = true
  n : n ≤ 200000
  r : RdX wr p A cap ts e l c
theorem own_some {w : World} {base n : Nat} {e : TypeId} {v : Value} {xs : List Value} {size : Nat} (h : w.ownsRow base e size v n xs) (hn : 1 ≤ n) : ∃ g c, v = .slice (some ⟨g, 0, none⟩) n c ∧ base ≤ g ∧ g < w.heap.size := by
  have hl := h.lt
  rcases h.2 with ⟨h1, h2⟩ | ⟨g, cap, cur, h1, h2⟩
  · omega
  · subst h1
    exact ⟨g, cap, rfl, hl g rfl⟩
theorem own_cells {w : World} {base n g c : Nat} {e : TypeId} {xs : List Value} {size : Nat} (h : w.ownsRow base e size (.slice (some ⟨g, 0, none⟩) n c) n xs) : ∀ j x, xs[j]? = some x → w.cell? ((⟨g, 0, none⟩ : Addr).add j) = some x := by
  intro j x hj
  rcases h.2 with ⟨h1, _⟩ | ⟨g', cap, cur, h1, _, h3, _, _, _, h5⟩
  · cases h1
  · injection h1 with h1
    injection h1 with h1
    injection h1 with h1
    subst h1
    rw [show (⟨g, 0, none⟩ : Addr).add j = ⟨g, j, none⟩ by simp [Addr.add, eq_comm]]
    refine cell_heap h3 ?_
    have hl : j < n * size := by
      have := (List.getElem?_eq_some_iff.1 hj).1
      rw [h.1] at this
      exact this
    rw [← h5, List.getElem?_take_of_lt hl] at hj
    simpa using hj
theorem own_src {w : World} {base n c : Nat} {A : Option Addr} {e : TypeId} {xs : List Value} {size : Nat} (h : w.ownsRow base e size (.slice A n c) n xs) : Src w A n c size xs := by
  refine ⟨h.1, ?_⟩
  rcases h.2 with ⟨h1, h2⟩ | ⟨g', cap, cur, h1, _⟩
  · cases h1
    exact .inl ⟨rfl, rfl, rfl⟩
  · cases h1
    exact .inr ⟨_, rfl, own_cells h⟩
theorem own_caps {w : World} {base size n c : Nat} {A : Option Addr} {e : TypeId} {xs : List Value} (h : w.ownsRow base e size (.slice A n c) n xs) : n ≤ c ∧ c ≤ maxLen ∧ ∀ a, A = some a → a.block < w.heap.size := by
  have hl := h.lt
  rcases h.2 with ⟨h1, h2⟩ | ⟨g, cap, cur, h1, _, _, h4, h5, _⟩
  · cases h1
    exact ⟨Nat.le_refl _, Nat.zero_le _, fun a e => by cases e⟩
  · cases h1
    exact ⟨h4, h5, fun a e => by cases e; exact (hl g rfl).2⟩
/-- what statement is to do -/
def StmtOK (p g : Nat) : Prop := ∀ (deep : Nat) (A : Option Addr) (cap : Nat) (t : BTok) (ts : List BTok) (w : World), deep ≤ 32 → t.k = 1 → ts.length + 1 ≤ 100000 → ts.length < g → RdX w p A cap (t :: ts) 0 0 0 →
  Calls Try.prog 63 #[.pointer (some ⟨p, 0, none⟩), .int .i64 deep] w (ListOut 1 p w (stmtF (fun o r => listF g (deep + 1) o r) deep t.pos (t :: ts)))
set_option maxHeartbeats 8000000 in
set_option maxRecDepth 100000 in
theorem list_walk (p f : Nat) (HST : Hid (∀ g, g < f → StmtOK p g)) (deep : Nat) (op : Pl) (A : Option Addr) (cap : Nat) (ts : List BTok) (w : World) (h : RdX w p A cap ts 0 0 0) (hd : deep ≤ 32) (hf : ts.length < f) (hl : ts.length ≤ 100000) :
    Calls Try.prog 35 #[.pointer (some ⟨p, 0, none⟩), .int .i64 deep, .agg #[.int .i64 op.1, .int .i64 op.2]] w (ListOut 200000 p w (listF f deep op ts)) := by
  have hp := lt_heap h.h
  obtain ⟨ni, nz0, nz, ns, nb⟩ := info_parts infoN
  have HS0 := hide (show LL p w (w.alloc (.cells #[.int .i64 op.1, .int .i64 op.2] 24)) op (.slice none 0 0) .nil [] (fun _ => False) A cap ts from ⟨only_alloc (only_refl p w) _, heap_new w _, (los_nil w w).grow (World.grownBy_alloc w _ none) (fun b e => by cases e), h.below (bel_one w _)⟩)
  clear h
  go_enter Try.func35, Try.ntmps35
  go_wp2_with fail
  go_loopg [7] (ts.length + 1) (fun g v wr => (∃ (F : Fo) (xs : List Value) (B : Nat → Prop) (A' : Option Addr) (cap' : Nat) (ts' : List BTok) (f' : Nat), LL p w wr op v F xs B A' cap' ts' ∧ ts'.length + 1 ≤ g ∧ ts'.length < f' ∧ f' ≤ f ∧ F.len + ts'.length ≤ 100000 ∧ listF f deep op ts = putF F (listF f' deep op ts')) ∨ (∃ (n : Nat) (xs : List Value) (A' : Option Addr) (cap' : Nat) (ts' : List BTok) (e l c : Int), LE p w wr v n xs A' cap' ts' e l c ∧ listF f deep op ts = .err e l c))
  case atStart => exact .inl ⟨.nil, [], _, A, cap, ts, f, HS0.out, Nat.le_refl _, hf, Nat.le_refl _, by simpa [Fo.len] using hl, (putF_nil _).symm⟩
  case round =>
    clear HS0
    rcases hrel with ⟨F, xs, B, A', cap', ts', f', hX, hg, hf', hff, hlen, heq⟩ | ⟨n, xs, A', cap', ts', e, l, c, hX, heq⟩
    · obtain ⟨Av, cv, rfl⟩ := own_slice hX.lo.own
      obtain ⟨f1, rfl⟩ : ∃ f1, f' = f1 + 1 := ⟨f' - 1, by omega⟩
      have r1 := cell_heap (j := 1) hX.r.h rfl
      have r0 := cell_heap (j := 0) hX.r.h rfl
      have b0 := cell_heap (j := 0) hX.box rfl
      have b1 := cell_heap (j := 1) hX.box rfl
      have hFl : F.len ≤ 100000 := by omega
      have HN := hide (next_any p A' cap' ts' 0 0 0 wr hX.r (by omega))
      have HX := hide hX
      have HQ := hide heq
      clear hX heq
      cases ts' with
      | nil =>
        rw [show kindT [] = 0 from rfl] at HN
        have hq : listF f deep op ts = if deep = 0 then .ok F [] else .err 71 op.1 op.2 := by
          rw [HQ.out, listF]
          split <;> simp [putF, Fo.app_nil]
        have HQ2 := hide hq
        clear hq
        rcases Nat.eq_zero_or_pos deep with h0 | h0
        · have hd0 : decide ((0 : Int) < (deep : Int)) = false := by simp; omega
          have hd1 : decide (0 < deep) = false := by simp; omega
          have HZ := hide h0
          clear h0
          go_wp2_with fail
          refine HN.out.mono ?_
          rintro e w2 ⟨rfl, rfl⟩
          go_wp2_with fail
          (try simp only [Exit.inBlock, Exit.then])
          go_ret
          rw [HQ2.out, if_pos HZ.out]
          exact ⟨HX.out.o, _, _, _, _, _, rfl, HX.out.lo, HX.out.r⟩
        · have hd0 : decide ((0 : Int) < (deep : Int)) = true := by simp; omega
          have hd1 : decide (0 < deep) = true := by simp; omega
          have HZ := hide h0
          clear h0
          have HFL := hide (fail_any p A' cap' [] 71 op.1 op.2 wr HX.out.r)
          go_wp2_with fail
          refine HN.out.mono ?_
          rintro e w2 ⟨rfl, rfl⟩
          go_wp2_with fail
          refine HFL.out.mono ?_
          rintro e w3 ⟨rfl, ho, hr⟩
          have HO := hide ho
          have HR := hide hr
          clear ho hr
          go_wp2_with fail
          (try simp only [Exit.inBlock, Exit.then])
          go_ret
          rw [HQ2.out, if_neg (by have := HZ.out; omega)]
          have hl3 := HX.out.lo.grow HO.out (fun b e => by injection e with e; omega)
          exact ⟨only_trans HX.out.o HO.out, by decide, _, _, _, _, _, _, rfl, hl3.own, hl3.fo.one, by omega, HR.out⟩
      | cons t ts'' =>
        rw [show kindT (t :: ts'') = t.k from rfl] at HN
        simp only [List.length_cons] at hg hf' hlen
        obtain ⟨ad, rfl, q0, q1, q2, q3⟩ := HX.out.r.t.head
        have hsp : ad.spot = none := World.cell?_spot q0
        obtain ⟨bk, of, sp⟩ := ad
        cases hsp
        have d0 : ((0 : Int) < ((ts''.length + 1 : Nat) : Int)) := by omega
        have d2 : ((0 : Int) < (ts''.length : Int) + 1) := by omega
        rw [List.length_cons] at r0
        by_cases k3 : t.k = 3
        · have ka : (t.k == 0) = false := by rw [k3]; decide
          have kb : (t.k == 3) = true := by rw [k3]; decide
          rcases Nat.eq_zero_or_pos deep with h0 | h0
          · have hd0 : decide ((0 : Int) < (deep : Int)) = false := by simp; omega
            have hd1 : decide (0 < deep) = false := by simp; omega
            have hq : listF f deep op ts = .err 130 t.l t.c := by rw [HQ.out, listF, if_pos k3, if_pos h0]; rfl
            have HQ2 := hide hq
            have HFL := hide (fail_any p (some ⟨bk, of, none⟩) cap' (t :: ts'') 130 t.l t.c wr HX.out.r)
            clear hq h0 k3 HQ
            go_wp2_with fail
            refine HN.out.mono ?_
            rintro e w2 ⟨rfl, rfl⟩
            go_wp2_with fail
            refine HFL.out.mono ?_
            rintro e w3 ⟨rfl, ho, hr⟩
            have hl3 := HX.out.lo.grow ho (fun b e => by injection e with e; omega)
            have HE := hide (show LE p w w3 (.slice Av F.len cv) F.len xs _ _ _ 130 t.l t.c from ⟨by decide, only_trans HX.out.o ho, hl3.own, hl3.fo.one, by omega, hr⟩)
            clear ho hr hl3
            go_wp2_with fail
            go_roundg 0
            case rel => exact .inr ⟨_, _, _, _, _, _, _, _, HE.out, HQ2.out⟩
            case measure => omega
          · have hd0 : decide ((0 : Int) < (deep : Int)) = true := by simp; omega
            have hd1 : decide (0 < deep) = true := by simp; omega
            have hq : listF f deep op ts = .ok F ts'' := by rw [HQ.out, listF, if_pos k3, if_neg (by omega)]; simp [putF, Fo.app_nil]
            have HQ2 := hide hq
            have HOF := hide (off_any p (some ⟨bk, of, none⟩) cap' t ts'' 0 0 0 wr HX.out.r (by omega) HX.out.r.cm)
            clear hq h0 k3 HQ
            go_wp2_with fail
            refine HN.out.mono ?_
            rintro e w2 ⟨rfl, rfl⟩
            go_wp2_with fail
            refine HOF.out.mono ?_
            rintro e w3 ⟨rfl, ho, A3, hr⟩
            have HO := hide ho
            have HR := hide hr
            clear ho hr
            go_wp2_with fail
            (try simp only [Exit.inBlock, Exit.then])
            go_ret
            rw [HQ2.out]
            exact ⟨only_trans HX.out.o HO.out, _, _, _, _, _, rfl, HX.out.lo.grow HO.out (fun b e => by injection e with e; omega), HR.out⟩
        · by_cases k1 : t.k = 1
          · have ka : (t.k == 0) = false := by rw [k1]; decide
            have kb : (t.k == 3) = false := by rw [k1]; decide
            have kc : (t.k == 1) = true := by rw [k1]; decide
            have HSC := hide (HST.out f1 (by omega) deep (some ⟨bk, of, none⟩) cap' t ts'' wr hd k1 (by omega) (by omega) HX.out.r)
            have HQ2 : Hid (listF f deep op ts = putF F (match stmtF (fun o r => listF f1 (deep + 1) o r) deep t.pos (t :: ts'') with
                | .ok G r => putF G (listF f1 deep op r)
                | .err e l c => .err e l c)) := hide (by
                rw [HQ.out, listF, if_neg k3, if_pos k1]
                cases stmtF (fun o r => listF f1 (deep + 1) o r) deep t.pos (t :: ts'') <;> rfl)
            have HK1 := hide k1
            clear k1 k3 HQ
            go_wp2_with fail
            refine HN.out.mono ?_
            rintro e w2 ⟨rfl, rfl⟩
            clear HN
            go_wp2_with fail
            refine HSC.out.mono ?_
            intro e w3 hh
            obtain ⟨ho, hh⟩ := hh
            have hl3 := HX.out.lo.grow ho (fun b e => by injection e with e; omega)
            cases hs : stmtF (fun o r => listF f1 (deep + 1) o r) deep t.pos (t :: ts'') with
            | ok G r =>
              rw [hs] at hh HQ2
              have hlen2 := stmtF_len HK1.out (fun o ts K q h => listF_rest _ _ _ _ _ _ h) hs
              have hsome := stmtF_some hs
              have hrl := stmtF_rest (fun o ts K q h => listF_rest _ _ _ _ _ _ h) hs
              simp only [List.length_cons] at hlen2 hrl
              obtain ⟨u, A3, cap3, ys, D, rfl, hlo, hr⟩ := hh
              obtain ⟨gu, cu, rfl, hgu, hgu2⟩ := own_some hlo.own hsome
              have HO := hide ho
              have HL3 := hide hl3
              have HLO := hide hlo
              have HR := hide hr
              have hsrc : ∀ j x, ys[j]? = some x → w3.cell? ((⟨gu, 0, none⟩ : Addr).add j) = some x := own_cells hlo.own
              have HSR := hide hsrc
              clear ho hl3 hlo hr hsrc hs HSC
              go_wp2_with (at_builtin; go_must (refine wpList_append_own_at _ rfl (.tmp 50) (.tmp 53) 36 rfl w.heap.size 44 ni _ 4 80 Try.underlying36 nz0 nz ns nb rfl (by decide) _ F.len xs rfl HL3.out.own ⟨gu, 0, none⟩ G.len cu ys rfl HLO.out.fo.len HSR.out HLO.out.fo.one ?c63 ?cby ?cbase ?_))
              case c63 => unfold maxLen; omega
              case cby => omega
              case cbase => have h1 := HX.out.o.size; have h2 := HO.out.size; omega
              intro v' w4 hown hgr _ hk
              have hap := LoS.app HL3.out HLO.out (fun g e => (HX.out.lo.own.lt g e).2) HX.out.o.size hown hgr hk
              have hbx : w4.heap[w.heap.size]? = some (.cells #[.int .i64 op.1, .int .i64 op.2] 24 (0, 0)) := heap_grown (only_heap HO.out HX.out.box (by omega)) hgr (own_ne_row HL3.out.own (only_heap HO.out HX.out.box (by omega)) (by decide))
              have hon : Only p w w4 := by
                have h1 := only_trans HX.out.o HO.out
                refine ⟨hgr.os.trans h1.os, hgr.tape.trans h1.tape, hgr.output.trans h1.output, Nat.le_trans h1.size hgr.size, fun i hi hne => ?_⟩
                rw [hgr.block i (Nat.lt_of_lt_of_le hi h1.size) (fun e => by have := (HL3.out.own.lt i e.symm).1; omega)]
                exact h1.block i hi hne
              have HY := hide (show LL p w w4 op v' (F.app G) (xs ++ ys) _ A3 cap3 r from ⟨hon, hbx, hap, HR.out.only hgr (fun b e => by have := (HL3.out.own.lt b e).1; omega)⟩)
              have hq3 : listF f deep op ts = putF (F.app G) (listF f1 deep op r) := by rw [HQ2.out, putF_put]
              have HQ3 := hide hq3
              obtain ⟨A4, c4, rfl⟩ := own_slice hown
              clear hown hgr hk hap hbx hon hq3 HO HL3 HLO HR HSR
              go_wp2_with fail
              go_roundg (r.length + 1)
              case rel => exact .inl ⟨_, _, _, _, _, r, f1, HY.out, Nat.le_refl _, by omega, by omega, by rw [Fo.len_app]; omega, HQ3.out⟩
              case measure => omega
            | err e2 l2 c2 =>
              rw [hs] at hh HQ2
              obtain ⟨hne, u, A3, cap3, n, ys, ts3, rfl, hown3, hone3, hn3, hr⟩ := hh
              obtain ⟨Au, cu, rfl⟩ := own_slice hown3
              have HO := hide ho
              have HL3 := hide hl3
              have HR := hide hr
              have HS3 := hide (own_src hown3)
              have HON := hide hone3
              have HNE := hide hne
              clear ho hl3 hr hown3 hone3 hne hs HSC
              go_wp2_with (at_builtin; go_must (refine app_src rfl (.tmp 50) (.tmp 53) 36 rfl w.heap.size 44 ni _ 4 80 Try.underlying36 nz0 nz ns nb rfl (by decide) _ F.len xs rfl HL3.out.own Au n cu ys rfl HS3.out HON.out ?c63 ?cby ?cbase ?_))
              case c63 => unfold maxLen; omega
              case cby => omega
              case cbase => have h1 := HX.out.o.size; have h2 := HO.out.size; omega
              intro v' w4 hown hgr
              have hon : Only p w w4 := by
                have h1 := only_trans HX.out.o HO.out
                refine ⟨hgr.os.trans h1.os, hgr.tape.trans h1.tape, hgr.output.trans h1.output, Nat.le_trans h1.size hgr.size, fun i hi hne => ?_⟩
                rw [hgr.block i (Nat.lt_of_lt_of_le hi h1.size) (fun e => by have := (HL3.out.own.lt i e.symm).1; omega)]
                exact h1.block i hi hne
              have HE := hide (show LE p w w4 v' (F.len + n) (xs ++ ys) A3 cap3 ts3 e2 l2 c2 from ⟨HNE.out, hon, hown, fun x hx => by
                rcases List.mem_append.1 hx with h | h
                · exact HL3.out.fo.one x h
                · exact HON.out x h, by omega, HR.out.only hgr (fun b e => by have := (HL3.out.own.lt b e).1; omega)⟩)
              obtain ⟨A4, c4, rfl⟩ := own_slice hown
              clear hown hgr hon HO HL3 HR HS3 HON HNE
              go_wp2_with fail
              go_roundg 0
              case rel => exact .inr ⟨_, _, _, _, _, _, _, _, HE.out, HQ2.out⟩
              case measure => omega
          · have kq : listF f deep op ts = .err 130 t.l t.c := by rw [HQ.out, listF, if_neg k3, if_neg k1]; rfl
            have HQ2 := hide kq
            have k0 := HX.out.r.kz t (by simp)
            have ka : (t.k == 0) = false := by simpa using k0
            have kb : (t.k == 3) = false := by simpa using k3
            have kc : (t.k == 1) = false := by simpa using k1
            have HFL := hide (fail_any p (some ⟨bk, of, none⟩) cap' (t :: ts'') 130 t.l t.c wr HX.out.r)
            clear kq k0 k1 k3 HQ
            go_wp2_with fail
            refine HN.out.mono ?_
            rintro e w2 ⟨rfl, rfl⟩
            go_wp2_with fail
            refine HFL.out.mono ?_
            rintro e w3 ⟨rfl, ho, hr⟩
            have hl3 := HX.out.lo.grow ho (fun b e => by injection e with e; omega)
            have HE := hide (show LE p w w3 (.slice Av F.len cv) F.len xs _ _ _ 130 t.l t.c from ⟨by decide, only_trans HX.out.o ho, hl3.own, hl3.fo.one, by omega, hr⟩)
            clear ho hr hl3
            go_wp2_with fail
            go_roundg 0
            case rel => exact .inr ⟨_, _, _, _, _, _, _, _, HE.out, HQ2.out⟩
            case measure => omega
    · have hr := hX.r.h
      have r1 := cell_heap (j := 1) hr rfl
      have he1 : (e == 0) = false := by simpa using hX.ne
      have HXE := hide hX
      have HEQ := hide heq
      obtain ⟨Av, cv, rfl⟩ := own_slice hX.own
      clear hX heq hr
      go_wp2_with fail
      go_ret
      rw [HEQ.out]
      exact ⟨HXE.out.o, HXE.out.ne, _, _, _, _, _, _, rfl, HXE.out.own, HXE.out.one, HXE.out.n, HXE.out.r⟩
theorem kind_cons {t : BTok} {ts : List BTok} : kindT (t :: ts) = t.k := rfl
end Go.Proofs.Ytihmmmodimionaa.Tr
/- slices.Clone at []api.Pos (the Shelf's theorem, laid by hand). -/
namespace Go.Proofs
open Go.Shelf
def Try.laysClonePos_ren : Go.Shelf.Ren := ⟨fun | 41 => 69 | n => n, fun | 22 => 42 | 23 => 24 | 4 => 4 | n => n, fun | n => n⟩
theorem Try.laysClonePos : Go.Proofs.SlLaysE0.n41 Try.prog Try.laysClonePos_ren := {
  mixed := by kernel_rfl
  f41 := ⟨Try.f69.name, by decide, Try.func69.trans (congrArg some (by kernel_rfl))⟩
  t4 := Try.underlying4
  a4 := Try.isAgg4
  z4 := Try.sizeOf4
  v4 := Try.zeroValue4
  t22 := Try.underlying42
  a22 := Try.isAgg42
  z22 := Try.sizeOf42
  v22 := Try.zeroValue42 }
end Go.Proofs
