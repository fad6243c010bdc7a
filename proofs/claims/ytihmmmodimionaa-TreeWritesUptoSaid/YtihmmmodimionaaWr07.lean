/- What the claim leans on, part 7 of 16: UK UL UM UN UO UP UQ. -/
import Derived.Test.YtihmmmodimionaaWr01
import Derived.Test.YtihmmmodimionaaWr02
import Derived.Test.YtihmmmodimionaaWr03
import Derived.Test.YtihmmmodimionaaWr04
import Derived.Test.YtihmmmodimionaaWr05
import Derived.Test.YtihmmmodimionaaWr06
/- fits: whether a container fits one of a group. -/
namespace Go.Proofs.Ytihmmmodimionaa.Tr
open Go.RowKit Go.Proofs.Ytihmmmodimionaa Go.Proofs.Ytihmmmodimionaa.Lx

def anyL : List UInt8 := [60, 42, 62]
def fit2 (x y : ByteArray) : Bool := T x == T y || T y == anyL
def fitL : List ByteArray → List ByteArray → Bool
  | [], [] => true
  | x :: xs, y :: ys => fit2 x y && fitL xs ys
  | _, _ => false
theorem fitL_len : ∀ (us ws : List ByteArray), us.length ≠ ws.length → fitL us ws = false
  | [], [], h => absurd rfl h
  | [], _ :: _, _ => rfl
  | _ :: _, [], _ => rfl
  | x :: xs, y :: ys, h => by
    rw [fitL, fitL_len xs ys (fun e => h (by simp [e]))]
    simp
theorem fit1_any (x y : ByteArray) (w : World) : Calls Try.prog 109 #[.string x, .string y] w fun e w' => e = .returned (.bool (fit2 x y)) ∧ w = w' := by
  have e1 : x.toList = T x := ByteArray.toList_eq x
  have e2 : y.toList = T y := ByteArray.toList_eq y
  cases h : (T x == T y) with
  | true =>
    have h1 : (x.toList == y.toList) = true := by rw [e1, e2]; exact h
    have HE := hide (show fit2 x y = true from by unfold fit2; rw [h]; rfl)
    clear e1 e2 h
    go_enter Try.func109, Try.ntmps109
    go_wp2_with fail
    go_ret
    exact ⟨by rw [HE.out]; rfl, rfl⟩
  | false =>
    have h1 : (x.toList == y.toList) = false := by rw [e1, e2]; exact h
    cases h2 : (T y == anyL) with
    | true =>
      have h3 : (y.toList == [60, 42, 62]) = true := by rw [e2]; exact h2
      have HE := hide (show fit2 x y = true from by unfold fit2; rw [h, h2]; rfl)
      clear e1 e2 h h2
      go_enter Try.func109, Try.ntmps109
      go_wp2_with fail
      go_ret
      exact ⟨by rw [HE.out]; rfl, rfl⟩
    | false =>
      have h3 : (y.toList == [60, 42, 62]) = false := by rw [e2]; exact h2
      have HE := hide (show fit2 x y = false from by unfold fit2; rw [h, h2]; rfl)
      clear e1 e2 h h2
      go_enter Try.func109, Try.ntmps109
      go_wp2_with fail
      go_ret
      exact ⟨by rw [HE.out]; rfl, rfl⟩
set_option maxHeartbeats 2000000 in
set_option maxRecDepth 100000 in
theorem eqf_any (us ws : List ByteArray) (A B : Option Addr) (cu cw : Nat) (w : World) (l1 : us.length ≤ 1099511627776) (l2 : ws.length ≤ 1099511627776) (hu : Src w A us.length cu 1 (us.map Value.string)) (hw : Src w B ws.length cw 1 (ws.map Value.string)) :
    Calls Try.prog 108 #[.slice A us.length cu, .slice B ws.length cw, .func (.func 109) #[] #[]] w fun e w' => e = .returned (.bool (fitL us ws)) ∧ w = w' := by
  by_cases hne : us.length = ws.length
  · have e1 : (us.length != ws.length) = false := by rw [hne]; simp
    have e1' : ((us.length : Int) != (ws.length : Int)) = false := by rw [hne]; simp
    have HNE := hide hne
    have HU := hide hu
    have HW := hide hw
    clear hne hu hw
    go_enter Try.func108, Try.ntmps108
    go_wp2_with fail
    go_loopw [17] (fun j wr => ∃ i : Nat, j = .int .i64 i ∧ i ≤ us.length ∧ fitL us ws = fitL (us.drop i) (ws.drop i) ∧ wr = w) (fun j _ => us.length - (intOf j).toNat)
    case atStart => exact ⟨0, rfl, Nat.zero_le _, rfl, rfl⟩
    case round =>
      obtain ⟨i, rfl, hi, hq, hwr⟩ := hrel
      subst hwr
      rcases Nat.lt_or_ge i us.length with hlt | hge
      · obtain ⟨ub, uo, rfl⟩ := src_spot HU.out (by omega) (Nat.le_refl _)
        have hlt2 : i < ws.length := by have := HNE.out; omega
        obtain ⟨wb, wo, rfl⟩ := src_spot HW.out (by omega) (Nat.le_refl _)
        have c0 := src_cells HU.out i (.string us[i]) (by rw [List.getElem?_map, List.getElem?_eq_getElem hlt]; rfl)
        have c1 := src_cells HW.out i (.string ws[i]) (by rw [List.getElem?_map, List.getElem?_eq_getElem hlt2]; rfl)
        have d1 : decide (i < us.length) = true := decide_eq_true hlt
        have d1' : decide ((i : Int) < (us.length : Int)) = true := decide_eq_true (by omega)
        have d2 : ((i : Int) < (us.length : Int)) := by omega
        have d3 : ((i : Int) < (ws.length : Int)) := by omega
        have HF := hide (fit1_any us[i] ws[i] wr)
        have HQ := hide (show fitL us ws = (fit2 us[i] ws[i] && fitL (us.drop (i + 1)) (ws.drop (i + 1))) from by rw [hq, List.drop_eq_getElem_cons hlt, List.drop_eq_getElem_cons hlt2]; rfl)
        have HLT := hide hlt
        clear hq hi
        generalize us[i] = x at *
        generalize ws[i] = y at *
        cases hf : fit2 x y with
        | true =>
          rw [hf] at HF
          have HF2 := hide hf
          clear hf
          go_wp2_with fail
          refine HF.out.mono ?_
          rintro e w2 ⟨rfl, rfl⟩
          go_wp2_with fail
          go_roundw
          case rel => exact ⟨i + 1, by go_num, HLT.out, by rw [HQ.out, HF2.out]; rfl, by first | rfl | trivial⟩
          case measure => have := HLT.out; simp [intOf]; omega
        | false =>
          rw [hf] at HF
          have HF2 := hide hf
          clear hf
          go_wp2_with fail
          refine HF.out.mono ?_
          rintro e w2 ⟨rfl, rfl⟩
          go_wp2_with fail
          (try simp only [Exit.inBlock, Exit.then])
          go_ret
          exact ⟨by rw [HQ.out, HF2.out]; rfl, rfl⟩
      · have d1 : decide (i < us.length) = false := decide_eq_false (by omega)
        have d1' : decide ((i : Int) < (us.length : Int)) = false := decide_eq_false (by omega)
        have HQ := hide (show fitL us ws = true from by rw [hq, List.drop_eq_nil_of_le hge, List.drop_eq_nil_of_le (by have := HNE.out; omega)]; rfl)
        clear hq hi hge
        go_wp2_with fail
        go_ret
        exact ⟨by rw [HQ.out]; rfl, rfl⟩
  · have e1 : (us.length != ws.length) = true := bne_iff_ne.2 hne
    have e1' : ((us.length : Int) != (ws.length : Int)) = true := bne_iff_ne.2 (by omega)
    have HE := hide (fitL_len us ws hne)
    clear hne hu hw
    go_enter Try.func108, Try.ntmps108
    go_wp2_with fail
    go_ret
    exact ⟨by rw [HE.out]; rfl, rfl⟩
set_option maxRecDepth 100000 in
theorem fits_any (us ws : List ByteArray) (b b' : Bool) (A B : Option Addr) (cu cw : Nat) (up uk wp wk : Value) (x : World) (l1 : us.length ≤ 1099511627776) (l2 : ws.length ≤ 1099511627776) (hu : Src x A us.length cu 1 (us.map Value.string)) (hw : Src x B ws.length cw 1 (ws.map Value.string)) :
    Calls Try.prog 104 #[.agg #[.slice A us.length cu, up, .bool b, uk], .agg #[.slice B ws.length cw, wp, .bool b', wk]] x fun e x' => e = .returned (.bool (b && fitL us ws)) ∧ Below x.heap.size x x' := by
  have hb1 := bel_one x (NodeC (.slice A us.length cu) up b uk)
  have hb2 := below_wide hb1 (bel_one (x.alloc (NodeC (.slice A us.length cu) up b uk)) (NodeC (.slice B ws.length cw) wp b' wk))
  have hn1 := heap_old (p := NodeC (.slice B ws.length cw) wp b' wk) (heap_new x (NodeC (.slice A us.length cu) up b uk))
  have hn2 := heap_new2 x (NodeC (.slice A us.length cu) up b uk) (NodeC (.slice B ws.length cw) wp b' wk)
  have HB2 := hide hb2
  have HEQ := hide (eqf_any us ws A B cu cw ((x.alloc (NodeC (.slice A us.length cu) up b uk)).alloc (NodeC (.slice B ws.length cw) wp b' wk)) l1 l2 (hu.below hb2) (hw.below hb2))
  have k0 := cell_heap (j := 0) hn1 rfl
  have k2 := cell_heap (j := 2) hn1 rfl
  have k1 := cell_heap (j := 0) hn2 rfl
  clear hb1 hb2 hn1 hn2 hu hw
  cases b with
  | false =>
    go_enter Try.func104, Try.ntmps104
    go_wp2_with fail
    go_ret
    exact ⟨rfl, HB2.out⟩
  | true =>
    go_enter Try.func104, Try.ntmps104
    go_wp2_with fail
    refine HEQ.out.mono ?_
    rintro e x2 ⟨rfl, rfl⟩
    go_wp2_with fail
    go_ret
    exact ⟨rfl, HB2.out⟩
end Go.Proofs.Ytihmmmodimionaa.Tr
/- pass: what a group's leaves pass on. -/
namespace Go.Proofs.Ytihmmmodimionaa.Tr
open Go.RowKit Go.Proofs.Ytihmmmodimionaa Go.Proofs.Ytihmmmodimionaa.Lx

theorem eg_pass : ∀ args w, (callFunc 101 args).run Try.prog w = .ok (.enter 101 args) w := Go.Proofs.enters_of Try.func101 (by kernel_rfl) rfl
set_option maxRecDepth 100000 in
/-- pass's predicate -/
theorem place_node (g : Nat) (ws us : List ByteArray) (b b' : Bool) (A B : Option Addr) (c d : Nat) (vp vk up uk : Value) (x : World) (hx : BX g (.slice A ws.length c) vp b vk x) (h1 : 1 ≤ us.length) (h2 : 1 ≤ ws.length) (l1 : us.length ≤ 1099511627776) (l2 : ws.length ≤ 1099511627776) (cu1 : us.length ≤ d) (cw1 : ws.length ≤ c) (hw : Src x A ws.length c 1 (ws.map Value.string)) (hu : Src x B us.length d 1 (us.map Value.string)) :
    Calls Try.prog 101 #[.agg #[.slice B us.length d, up, .bool b', uk], .pointer (some ⟨g, 0, none⟩)] x fun e x' => e = .returned (.bool (inPl us ws)) ∧ Below x.heap.size x x' := by
  have hb1 := bel_one x (NodeC (.slice B us.length d) up b' uk)
  have hx1 := hx.below hb1
  have n0 := cell_heap (j := 0) hx1.h rfl
  have n1 := cell_heap (j := 1) hx1.h rfl
  have n2 := cell_heap (j := 2) hx1.h rfl
  have n3 := cell_heap (j := 3) hx1.h rfl
  have HIP := hide (inPlace_any us ws b' b B A d c up uk vp vk (x.alloc (NodeC (.slice B us.length d) up b' uk)) h1 h2 l1 l2 cu1 cw1 (hu.below hb1) (hw.below hb1))
  have HB1 := hide hb1
  clear hx hx1 hb1 hw hu
  go_enter Try.func101, Try.ntmps101
  go_wp2_with fail
  refine HIP.out.mono ?_
  rintro e x2 ⟨rfl, hb2⟩
  have HB2 := hide (below_wide HB1.out hb2)
  clear hb2
  go_wp2_with fail
  go_ret
  exact ⟨rfl, HB2.out⟩
set_option maxRecDepth 100000 in
theorem contains_any (F : Fo) (A : Option Addr) (c : Nat) (xs : List Value) (D : Nat → Prop) (w : World) (hs : Src w A F.len c 4 xs) (hf : FoV w D F xs) (hA : ∀ a, A = some a → a.block < w.heap.size) (hsz : szF F ≤ 1099511627776) (hgd : Gd F) (g : Nat) (lb : Array Value) (p : List ByteArray → Bool → Bool) (eg : ∀ args w, (callFunc g args).run Try.prog w = .ok (.enter g args) w)
    (HC : Hid (∀ (ws : List ByteArray) (b : Bool) (B : Option Addr) (d : Nat) (vp vk : Value) (x : World), 1 ≤ ws.length → (∀ a, B = some a → ws.length ≤ d) → ws.length ≤ 1099511627776 → Below w.heap.size w x → Src x B ws.length d 1 (ws.map Value.string) → Calls Try.prog g (#[.agg #[.slice B ws.length d, vp, .bool b, vk]] ++ lb) x fun e x' => e = .returned (.bool (p ws b)) ∧ Below x.heap.size x x')) :
    Calls Try.prog 100 #[.slice A F.len c, .func (.func g) #[] lb] w fun e w' => e = .returned (.bool (anyF p F)) ∧ Below w.heap.size w w' := by
  have HI := hide (index_any F A c xs D w hs hf hA hsz hgd g lb p eg HC)
  clear hs hf hA hsz hgd eg HC
  cases ha : anyF p F with
  | true =>
    have h1 := idx_some F 0 ha
    generalize idxF p F 0 = q at *
    clear ha
    go_enter Try.func100, Try.ntmps100
    go_wp2_with fail
    refine HI.out.mono ?_
    rintro e w2 ⟨rfl, hb⟩
    have d1 : decide ((0 : Int) ≤ q) = true := decide_eq_true h1
    have HB := hide hb
    clear hb
    go_wp2_with fail
    go_ret
    exact ⟨rfl, HB.out⟩
  | false =>
    have h1 := idx_none F 0 ha
    rw [h1] at HI
    clear ha h1
    go_enter Try.func100, Try.ntmps100
    go_wp2_with fail
    refine HI.out.mono ?_
    rintro e w2 ⟨rfl, hb⟩
    have HB := hide hb
    clear hb
    go_wp2_with fail
    go_ret
    exact ⟨rfl, HB.out⟩
/-- what leaves pass on -/
def passL : Fo → Fo → Fo
  | C, .nil => C
  | C, .cons ws ps _ K R => passL (if anyF (fun us _ => inPl us ws) C = true then C else C.app (.cons ws ps false K .nil)) R
def leafF : Fo → Bool
  | .nil => true
  | .cons _ _ b _ R => !b && leafF R
end Go.Proofs.Ytihmmmodimionaa.Tr
/- pass: what a group's leaves pass on: the walk. -/
namespace Go.Proofs.Ytihmmmodimionaa.Tr
open Go.RowKit Go.Proofs.Ytihmmmodimionaa Go.Proofs.Ytihmmmodimionaa.Lx

theorem grown_step {w x y : World} {r r2 : Option Nat} (h : w.grownBy x r) (k : x.grownBy y r2) (hr : ∀ q, r2 = some q → r = some q ∨ w.heap.size ≤ q) : w.grownBy y r :=
  ⟨k.os.trans h.os, k.tape.trans h.tape, k.output.trans h.output, Nat.le_trans h.size k.size, fun i hi hne => (k.block i (Nat.lt_of_lt_of_le hi h.size) (fun e => by
    rcases hr i e.symm with h' | h'
    · exact hne h'.symm
    · omega)).trans (h.block i hi hne)⟩
def PassOut (w0 : World) (vc : Value) (B : Nat → Prop) (F : Fo) (w : World) (e : Ending) (w' : World) : Prop :=
  w.grownBy w' vc.ownBlock ∧ ∃ v ys B', e = .returned v ∧ Lo w0 w' v F ys B' ∧ (v.ownBlock = vc.ownBlock ∨ ∀ q, v.ownBlock = some q → w.heap.size ≤ q) ∧ ∀ q, B' q → B q ∨ w.heap.size ≤ q
structure PsL (w0 w wr : World) (vc va : Value) (C C' G : Fo) (i : Nat) (R : Fo) (ys xs : List Value) (B B' D : Nat → Prop) : Prop where
  gr : w.grownBy wr vc.ownBlock
  lo : Lo w0 wr va C' ys B'
  ob : va.ownBlock = vc.ownBlock ∨ ∀ q, va.ownBlock = some q → w.heap.size ≤ q
  bd : ∀ q, B' q → B q ∨ w.heap.size ≤ q
  fo : FoV w D R (xs.drop (i * 4))
  len : i + R.len = G.len
  leaf : leafF R = true
  gd : Gd R
  gdc : Gd C'
  sz : szF C' + szF R ≤ szF C + szF G
  eq : passL C G = passL C' R
theorem passL_one {C : Fo} {ws : List ByteArray} {ps : List (Int × Int)} {b : Bool} {K R : Fo} : passL C (.cons ws ps b K R) = passL (if anyF (fun us _ => inPl us ws) C = true then C else C.app (.cons ws ps false K .nil)) R := rfl
theorem gd_put : ∀ (C : Fo) {G : Fo}, Gd C → Gd G → Gd (C.app G)
  | .nil, G, _, h => h
  | .cons ws ps _ K R, G, h, k => ⟨h.1, h.2.1, h.2.2.1, gd_put R h.2.2.2 k⟩
set_option maxHeartbeats 8000000 in
set_option maxRecDepth 100000 in
theorem pass_leafs (w0 : World) (C G : Fo) (vc : Value) (ys0 xs : List Value) (B D : Nat → Prop) (A : Option Addr) (c : Nat) (w : World) (hw0 : w0.heap.size ≤ w.heap.size) (hc : Lo w0 w vc C ys0 B) (hs : Src w A G.len c 4 xs) (hf : FoV w D G xs) (hD : ∀ q, D q → q < w.heap.size ∧ vc.ownBlock ≠ some q) (hA : ∀ a, A = some a → a.block < w.heap.size ∧ vc.ownBlock ≠ some a.block) (hsz : szF C + szF G ≤ 1099511627776) (hgc : Gd C) (hgg : Gd G) (hlf : leafF G = true) :
    Calls Try.prog 90 #[vc, .slice A G.len c] w (PassOut w0 vc B (passL C G) w) := by
  obtain ⟨ni, nz0, nz, ns, nb⟩ := info_parts infoN
  have HS := hide hs
  have HST := hide (show PsL w0 w w vc vc C C G 0 G ys0 xs B B D from ⟨World.grownBy.refl _ _, hc, .inl rfl, fun q hq => .inl hq, by simpa using hf, by simp, hlf, hgg, hgc, Nat.le_refl _, rfl⟩)
  have hlG := len_sz G
  have hGl : G.len ≤ 1099511627776 := by omega
  have HD := hide hD
  have HA := hide hA
  have HZ := hide hsz
  have HW0 := hide hw0
  obtain ⟨Ac, cc, rfl⟩ := own_slice hc.own
  clear hs hf hD hA hsz hgc hgg hlf hlG hw0 hc
  go_enter Try.func90, Try.ntmps90
  go_wp2_with fail
  go_loopw [0, 12] (fun va j wr => ∃ (i : Nat) (C' R : Fo) (ys : List Value) (B' : Nat → Prop), j = .int .i64 i ∧ PsL w0 w wr (.slice Ac C.len cc) va C C' G i R ys xs B B' D) (fun _ j _ => G.len - (intOf j).toNat)
  case atStart => exact ⟨0, C, G, _, _, rfl, HST.out⟩
  case round =>
    clear HST
    obtain ⟨i, C', R, ys, B', rfl, hX⟩ := hrel
    obtain ⟨Av, cv, rfl⟩ := own_slice hX.lo.own
    have HX := hide hX
    clear hX
    cases R with
    | nil =>
      have hi : i = G.len := by have := HX.out.len; simpa [Fo.len] using this
      have d1 : decide (i < G.len) = false := decide_eq_false (by omega)
      have d1' : decide ((i : Int) < (G.len : Int)) = false := decide_eq_false (by omega)
      have HL := hide (show Lo w0 wr (.slice Av C'.len cv) (passL C G) ys B' from by rw [HX.out.eq]; exact HX.out.lo)
      clear hi
      go_wp2_with fail
      go_ret
      exact ⟨HX.out.gr, _, _, _, rfl, HL.out, HX.out.ob, HX.out.bd⟩
    | cons ws ps blk K R =>
      have hlen : i + (R.len + 1) = G.len := HX.out.len
      have d1 : decide (i < G.len) = true := decide_eq_true (by omega)
      have d1' : decide ((i : Int) < (G.len : Int)) = true := decide_eq_true (by omega)
      have d2 : ((i : Int) < (G.len : Int)) := by omega
      have hlf := HX.out.leaf
      rw [leafF, Bool.and_eq_true] at hlf
      have hbk : blk = false := by simpa using hlf.1
      subst hbk
      have HLF := hide hlf.2
      obtain ⟨vw, vp, Ak, ck, ks, g0, g1, g2, g3, hvw, hvp, hks, hkA, hkF, hRF⟩ := drop_fo HX.out.fo
      obtain ⟨ab, ao, rfl⟩ := src_spot HS.out (by omega) (by decide)
      have hsc := src_cells HS.out
      have hadB := HA.out _ rfl
      have KEEP := hide (show ∀ (x : World), w.grownBy x (Value.slice Ac C.len cc).ownBlock → ∀ q, q < w.heap.size → (Value.slice Ac C.len cc).ownBlock ≠ some q → x.heap[q]? = w.heap[q]? from fun x hx q h1 h2 => hx.block q h1 (fun e => h2 e.symm))
      have kc : ∀ (o : Nat) (u : Value), w.cell? ⟨ab, o, none⟩ = some u → wr.cell? ⟨ab, o, none⟩ = some u := fun o u h => (cell_block (a := ⟨ab, o, none⟩) (KEEP.out wr HX.out.gr ab hadB.1 hadB.2)).trans h
      have c0 := kc (ao + i * 4) _ (hsc _ _ g0)
      have c1 := kc (ao + i * 4 + 1) _ (by rw [Nat.add_assoc]; exact hsc _ _ g1)
      have c2 := kc (ao + i * 4 + 2) _ (by rw [Nat.add_assoc]; exact hsc _ _ g2)
      have c3 := kc (ao + i * 4 + 3) _ (by rw [Nat.add_assoc]; exact hsc _ _ g3)
      obtain ⟨Aw, cw, rfl, hws, hwB⟩ := hvw
      obtain ⟨Ap, cp, rfl, hps, hpB⟩ := hvp
      have hszR : szF (.cons ws ps false K R) = ws.length + ps.length + 1 + szF K + szF R := rfl
      have hszb : szF C' + (ws.length + ps.length + 1 + szF K + szF R) ≤ 1099511627776 := by have h1 := HX.out.sz; have h2 := HZ.out; omega
      have HSR := hide (show szF C' + (ws.length + ps.length + 1 + szF K + szF R) ≤ szF C + szF G from by have h1 := HX.out.sz; omega)
      have hg := HX.out.gd
      have HG := hide hg
      have hkl : K.len ≤ 1099511627776 := by have h1 := len_sz K; omega
      have hcl : C'.len ≤ 1099511627776 := by have h1 := len_sz C'; omega
      have hcl2 : C'.len + 1 ≤ 1099511627776 := by have h1 := len_sz C'; omega
      have HRF := hide hRF
      have HLEN := hide hlen
      have hgr1 := grown_step HX.out.gr (World.grownBy_alloc wr (NodeC (.slice Aw ws.length cw) (.slice Ap ps.length cp) false (.slice Ak K.len ck)) none) (fun q e => by cases e)
      have HGR1 := hide hgr1
      have hbx : BX wr.heap.size (.slice Aw ws.length cw) (.slice Ap ps.length cp) false (.slice Ak K.len ck) (wr.alloc (NodeC (.slice Aw ws.length cw) (.slice Ap ps.length cp) false (.slice Ak K.len ck))) := ⟨heap_new wr _⟩
      have HBX := hide hbx
      have hl1 := HX.out.lo.grow (World.grownBy_alloc wr (NodeC (.slice Aw ws.length cw) (.slice Ap ps.length cp) false (.slice Ak K.len ck)) none) (fun b e => by cases e)
      have HL1 := hide hl1
      have hwsx : ∀ (x : World), w.grownBy x (Value.slice Ac C.len cc).ownBlock → Src x Aw ws.length cw 1 (ws.map Value.string) := fun x hx => src_keep hws (fun a ha => by have h1 := HD.out _ (hwB a ha).1; exact KEEP.out x hx _ h1.1 h1.2)
      have hcap : ws.length ≤ cw := by
        obtain ⟨wb, wo, e⟩ := src_spot hws hg.1 (Nat.le_refl _)
        exact (hwB _ e).2
      have HIX := hide (contains_any C' Av cv ys B' (wr.alloc (NodeC (.slice Aw ws.length cw) (.slice Ap ps.length cp) false (.slice Ak K.len ck))) (own_src hl1.own) hl1.fo (fun a ha => (hl1.own.lt a.block (by rw [ha]; rfl)).2) (by omega) HX.out.gdc 101 #[.pointer (some ⟨wr.heap.size, 0, none⟩)] (fun us _ => inPl us ws) eg_pass
        (hide (fun us b' B2 d vp' vk' x hu1 hcu hul hx hsx => place_node wr.heap.size ws us false b' Aw B2 cw d (.slice Ap ps.length cp) (.slice Ak K.len ck) vp' vk' x (hbx.below hx) hu1 hg.1 hul (by omega) (by
          obtain ⟨q, o, e⟩ := src_spot hsx hu1 (Nat.le_refl _)
          exact hcu _ e) hcap (hwsx x (grown_step hgr1 (grown_of_below hx) (fun q e => by cases e))) hsx)))
      have HTW := hide (fun (x : World) (hx : w.grownBy x (Value.slice Ac C.len cc).ownBlock) => twin_any ws ps false K Aw Ap Ak cw cp ck ks D x (hwsx x hx) (src_keep hps (fun a ha => by have h1 := HD.out _ (hpB a ha); exact KEEP.out x hx _ h1.1 h1.2)) hg.1 hg.2.1 (by omega) (by omega) (src_keep hks (fun a ha => by have h1 := HD.out _ (hkA a ha); exact KEEP.out x hx _ h1.1 h1.2)) (hkF.keep (fun q hq => by have h1 := HD.out _ hq; exact KEEP.out x hx _ h1.1 h1.2)) (fun q hq => Nat.lt_of_lt_of_le (HD.out q hq).1 hx.size) (fun a ha => Nat.lt_of_lt_of_le (HD.out _ (hkA a ha)).1 hx.size) (by omega) hg.2.2.1)
      clear hsc g0 g1 g2 g3 hks hkA hkF hRF hws hwB hps hpB hszR hszb hg hlen hadB hgr1 hbx hl1 hlf kc hwsx hcap
      cases hany : anyF (fun us _ => inPl us ws) C' with
      | true =>
        rw [hany] at HIX
        have HE := hide (show passL C G = passL C' R from by rw [HX.out.eq, passL_one, if_pos hany])
        clear hany
        go_wp2_with fail
        refine HIX.out.mono ?_
        generalize wr.alloc (NodeC (.slice Aw ws.length cw) (.slice Ap ps.length cp) false (.slice Ak K.len ck)) = w1 at *
        rintro e x1 ⟨rfl, hbi⟩
        have HF := hide (show PsL w0 w x1 (.slice Ac C.len cc) (.slice Av C'.len cv) C C' G (i + 1) R ys xs B B' D from ⟨grown_step HGR1.out (grown_of_below hbi) (fun q e => by cases e), HL1.out.grow (grown_of_below hbi) (fun b e => by cases e), HX.out.ob, HX.out.bd, HRF.out, by have := HLEN.out; omega, HLF.out, HG.out.2.2.2, HX.out.gdc, by have := HSR.out; omega, HE.out⟩)
        clear hbi HIX HTW
        go_wp2_with fail
        go_roundw
        case rel => exact ⟨i + 1, C', R, _, _, by go_num, HF.out⟩
        case measure => have := HLEN.out; simp [intOf]; omega
      | false =>
        rw [hany] at HIX
        have HE := hide (show passL C G = passL (C'.app (.cons ws ps false K .nil)) R from by rw [HX.out.eq, passL_one, if_neg (by rw [hany]; decide)])
        clear hany
        go_wp2_with fail
        refine HIX.out.mono ?_
        have HAL := hide (show ∀ q, (Value.slice Av C'.len cv).ownBlock = some q → q < (wr.alloc (NodeC (.slice Aw ws.length cw) (.slice Ap ps.length cp) false (.slice Ak K.len ck))).heap.size from fun q e => (HL1.out.own.lt q e).2)
        generalize wr.alloc (NodeC (.slice Aw ws.length cw) (.slice Ap ps.length cp) false (.slice Ak K.len ck)) = w1 at *
        rintro e x1 ⟨rfl, hbi⟩
        have hbx1 := HBX.out.below hbi
        have n0 := cell_heap (j := 0) hbx1.h rfl
        have n1 := cell_heap (j := 1) hbx1.h rfl
        have n2 := cell_heap (j := 2) hbx1.h rfl
        have n3 := cell_heap (j := 3) hbx1.h rfl
        have hgi := grown_step HGR1.out (grown_of_below hbi) (fun q e => by cases e)
        have HGI := hide hgi
        have HTX := hide (HTW.out x1 hgi)
        have HLI := hide (HL1.out.grow (grown_of_below hbi) (fun b e => by cases e))
        have HSI := hide hbi.size
        clear hbi hbx1 HTW HIX hgi
        go_wp2_with fail
        refine HTX.out.mono ?_
        rintro e x2 ⟨vw, vp, vk, kk, BK, rfl, ht⟩
        have HG2 := hide (grown_step HGI.out (grown_of_below ht.b) (fun q e => by cases e))
        have HL2 := hide (HLI.out.grow (grown_of_below ht.b) (fun b e => by cases e))
        have HT := hide ht
        obtain ⟨Bw, dw, rfl⟩ := own_slice ht.ow
        obtain ⟨Bp, dp, rfl⟩ := own_slice ht.op
        obtain ⟨Bk, dk, rfl⟩ := own_slice ht.k.own
        have hln := lo_one false HT.out.b.size HT.out.ow HT.out.op HT.out.k
        have HLN := hide hln
        have HRW := hide (row_at (heap_new x2 (NodeC (.slice Bw ws.length dw) (.slice Bp ps.length dp) false (.slice Bk K.len dk))))
        have HL3 := hide (HL2.out.grow (World.grownBy_alloc x2 (NodeC (.slice Bw ws.length dw) (.slice Bp ps.length dp) false (.slice Bk K.len dk)) none) (fun b e => by cases e))
        have HG3 := hide (grown_step HG2.out (World.grownBy_alloc x2 (NodeC (.slice Bw ws.length dw) (.slice Bp ps.length dp) false (.slice Bk K.len dk)) none) (fun q e => by cases e))
        have HS2 := hide ht.b.size
        clear ht hln HTX n0 n1 n2 n3
        go_wp2_with (at_builtin; go_must (refine wpList_append_own_at _ rfl (.tmp 23) (.tmp 26) 36 rfl w0.heap.size 44 ni _ 4 80 Try.underlying36 nz0 nz ns nb rfl (by decide) _ _ _ rfl HL3.out.own ⟨x2.heap.size, 0, none⟩ 1 1 [.slice Bw ws.length dw, .slice Bp ps.length dp, .bool false, .slice Bk K.len dk] rfl rfl HRW.out ?ones ?c63 ?cby ?cbase ?_))
        case ones => simp [Value.oneCell']
        case c63 => unfold maxLen; omega
        case cby => omega
        case cbase => exact Nat.le_trans HW0.out HG3.out.size
        intro v' w4 hown hgr _ hk2
        have hsx : w.heap.size ≤ x1.heap.size := HGI.out.size
        have hap := Lo.app2 HL3.out (HLN.out.base (w0 := w0) (Nat.le_trans HW0.out hsx)) (fun q hq e => by
          have h1 := (HLN.out.hB q hq).1
          have h2 := HAL.out q e
          have h3 := HSI.out
          omega) hown hgr (by rw [World.size_alloc]; exact hk2)
        have HF := hide (show PsL w0 w w4 (.slice Ac C.len cc) v' C (C'.app (.cons ws ps false K .nil)) G (i + 1) R _ xs B _ D from ⟨grown_step HG3.out hgr (fun q e => by
            rcases HX.out.ob with h | h
            · exact .inl (by rw [← h]; exact e)
            · exact .inr (h q e)), hap, by
            rcases hk2 with h | h
            · rcases HX.out.ob with h' | h'
              · exact .inl (h.trans h')
              · exact .inr (fun q e => h' q (by rw [← h]; exact e))
            · exact .inr (fun q e => by rw [h] at e; injection e with e; have := HG2.out.size; omega), fun q hq => by
            rcases hq with h | h
            · exact HX.out.bd q h
            · exact .inr (Nat.le_trans hsx (HLN.out.hB q h).1), HRF.out, by have := HLEN.out; omega, HLF.out, HG.out.2.2.2, gd_put C' HX.out.gdc ⟨HG.out.1, HG.out.2.1, HG.out.2.2.1, trivial⟩, by rw [sz_app]; have h1 := HSR.out; show szF C' + (ws.length + ps.length + 1 + szF K + 0) + szF R ≤ _; omega, HE.out⟩)
        clear hown hgr hk2 hap hsx
        go_wp2_with fail
        go_roundw
        case rel => exact ⟨i + 1, _, R, _, _, by go_num, HF.out⟩
        case measure => have := HLEN.out; simp [intOf]; omega
end Go.Proofs.Ytihmmmodimionaa.Tr
/- Containers side by side, each with a list of its own: what a group passes on to each. -/
namespace Go.Proofs.Ytihmmmodimionaa.Tr
open Go.RowKit Go.Proofs.Ytihmmmodimionaa Go.Proofs.Ytihmmmodimionaa.Lx

structure CN (w0 wr : World) (g cv n : Nat) (xs : List Value) (ws : Nat → List ByteArray) (ps : Nat → List (Int × Int)) (aw ap kv : Nat → Value) (K : Nat → Fo) (W : Nat → Prop) : Prop where
  own : wr.ownsRow w0.heap.size 44 4 (.slice (some ⟨g, 0, none⟩) n cv) n xs
  x0 : ∀ e, e < n → xs[e * 4]? = some (aw e)
  x1 : ∀ e, e < n → xs[e * 4 + 1]? = some (ap e)
  x2 : ∀ e, e < n → xs[e * 4 + 2]? = some (.bool true)
  x3 : ∀ e, e < n → xs[e * 4 + 3]? = some (kv e)
  sw : ∀ e, e < n → StrV wr W (aw e) (ws e)
  sp : ∀ e, e < n → PosV wr W (ap e) (ps e)
  wW : ∀ q, W q → w0.heap.size ≤ q ∧ q < wr.heap.size ∧ q ≠ g
  kW : ∀ e, e < n → ∀ q, (kv e).ownBlock = some q → ¬ W q ∧ q ≠ g
  kk : ∀ e f, e < n → f < n → e ≠ f → ∀ q, (kv e).ownBlock = some q → (kv f).ownBlock ≠ some q
  lo : ∀ e, e < n → ∃ y B, Lo w0 wr (kv e) (K e) y B ∧ ∀ f, f < n → ∀ q, B q → q ≠ g ∧ (kv f).ownBlock ≠ some q
section
variable {w0 wr x : World} {g cv n : Nat} {xs : List Value} {ws : Nat → List ByteArray} {ps : Nat → List (Int × Int)} {aw ap kv : Nat → Value} {K : Nat → Fo} {W : Nat → Prop}
theorem CN.below (h : CN w0 wr g cv n xs ws ps aw ap kv K W) (hb : Below wr.heap.size wr x) : CN w0 x g cv n xs ws ps aw ap kv K W := by
  refine ⟨own_belw h.own hb, h.x0, h.x1, h.x2, h.x3, fun e he => (h.sw e he).keep (fun q hq => hb.block q (h.wW q hq).2.1), fun e he => (h.sp e he).keep (fun q hq => hb.block q (h.wW q hq).2.1), fun q hq => ⟨(h.wW q hq).1, Nat.lt_of_lt_of_le (h.wW q hq).2.1 hb.size, (h.wW q hq).2.2⟩, h.kW, h.kk, fun e he => ?_⟩
  obtain ⟨y, B, hl, hB⟩ := h.lo e he
  exact ⟨y, B, hl.grow (grown_of_below hb) (fun b e => by cases e), hB⟩
/-- one list grows, by what is passed on to it -/
theorem CN.pass {w1 : World} {e : Nat} {v' : Value} {K' : Fo} {y' : List Value} {B B' : Nat → Prop} (h : CN w0 wr g cv n xs ws ps aw ap kv K W) (he : e < n) (hgr : wr.grownBy x (kv e).ownBlock) (hBe : ∀ f, f < n → ∀ q, B q → q ≠ g ∧ (kv f).ownBlock ≠ some q) (hl : Lo w0 x v' K' y' B') (hob : v'.ownBlock = (kv e).ownBlock ∨ ∀ q, v'.ownBlock = some q → wr.heap.size ≤ q) (hbd : ∀ q, B' q → B q ∨ wr.heap.size ≤ q) :
    CN w0 (x.setCell ⟨g, e * 4 + 3, none⟩ v') g cv n (xs.set (e * 4 + 3) v') ws ps aw ap (fun f => if f = e then v' else kv f) (fun f => if f = e then K' else K f) W := by
  have hgl := (h.own.lt g rfl).2
  have hge : (kv e).ownBlock ≠ some g := fun e2 => (h.kW e he g e2).2 rfl
  have hox := h.own.kept hgr (.inr (fun e2 => hge e2.symm))
  obtain ⟨hst, hg2⟩ := hox.stored (e * 4 + 3) v'
  have hsz : (x.setCell ⟨g, e * 4 + 3, none⟩ v').heap.size = x.heap.size := by simp [World.setCell]
  -- the new list's own block
  have hvq : ∀ q, v'.ownBlock = some q → ((kv e).ownBlock = some q ∨ wr.heap.size ≤ q) := fun q hq => by
    rcases hob with h' | h'
    · exact .inl (by rw [← h']; exact hq)
    · exact .inr (h' q hq)
  have keep : ∀ q, q < wr.heap.size → q ≠ g → (kv e).ownBlock ≠ some q → (x.setCell ⟨g, e * 4 + 3, none⟩ v').heap[q]? = wr.heap[q]? := fun q h1 h2 h3 => by
    rw [hg2.block q (Nat.lt_of_lt_of_le h1 hgr.size) (fun e2 => h2 (by injection e2))]
    exact hgr.block q h1 (fun e2 => h3 e2.symm)
  have hWk : ∀ q, W q → (x.setCell ⟨g, e * 4 + 3, none⟩ v').heap[q]? = wr.heap[q]? := fun q hq => keep q (h.wW q hq).2.1 (h.wW q hq).2.2 (fun e2 => (h.kW e he q e2).1 hq)
  have hxl : ∀ f, f < n → f * 4 + 3 < xs.length := fun f hf => (List.getElem?_eq_some_iff.1 (h.x3 f hf)).1
  refine ⟨hst, fun f hf => ?_, fun f hf => ?_, fun f hf => ?_, fun f hf => ?_, fun f hf => (h.sw f hf).keep hWk, fun f hf => (h.sp f hf).keep hWk, fun q hq => ⟨(h.wW q hq).1, by rw [hsz]; exact Nat.lt_of_lt_of_le (h.wW q hq).2.1 hgr.size, (h.wW q hq).2.2⟩, fun f hf q hq => ?_, fun f1 f2 hf1 hf2 hne q hq => ?_, fun f hf => ?_⟩
  · rw [List.getElem?_set_ne (by omega)]; exact h.x0 f hf
  · rw [List.getElem?_set_ne (by omega)]; exact h.x1 f hf
  · rw [List.getElem?_set_ne (by omega)]; exact h.x2 f hf
  · by_cases hfe : f = e
    · subst hfe
      rw [if_pos rfl, List.getElem?_set_self (hxl f hf)]
    · rw [if_neg hfe, List.getElem?_set_ne (by omega)]; exact h.x3 f hf
  · by_cases hfe : f = e
    · rw [if_pos hfe] at hq
      rcases hvq q hq with h' | h'
      · exact h.kW e he q h'
      · exact ⟨fun hw => by have := (h.wW q hw).2.1; omega, by omega⟩
    · rw [if_neg hfe] at hq
      exact h.kW f hf q hq
  · have old : ∀ f, f < n → ∀ q, (kv f).ownBlock = some q → q < wr.heap.size := fun f hf q hq => by
      obtain ⟨y, B, hl, _⟩ := h.lo f hf
      exact (hl.own.lt q hq).2
    by_cases h1 : f1 = e
    · rw [if_pos h1] at hq
      rw [if_neg (by omega : ¬ f2 = e)]
      intro hq2
      rcases hvq q hq with h' | h'
      · exact h.kk e f2 he hf2 (by omega) q h' hq2
      · have := old f2 hf2 q hq2; omega
    · rw [if_neg h1] at hq
      by_cases h2 : f2 = e
      · rw [if_pos h2]
        intro hq2
        rcases hvq q hq2 with h' | h'
        · exact h.kk f1 e hf1 he h1 q hq h'
        · have := old f1 hf1 q hq; omega
      · rw [if_neg h2]
        exact h.kk f1 f2 hf1 hf2 hne q hq
  · by_cases hfe : f = e
    · refine ⟨y', B', ?_, fun f2 hf2 q hq => ?_⟩
      · simp only [if_pos hfe]
        refine hl.kept2 hg2 (fun b e2 => ?_)
        injection e2 with e2
        subst e2
        refine ⟨fun hq => ?_, fun hq => ?_⟩
        · rcases hvq _ hq with h' | h'
          · exact (h.kW e he _ h').2 rfl
          · omega
        · rcases hbd _ hq with h' | h'
          · exact (hBe e he _ h').1 rfl
          · omega
      · rcases hbd q hq with h' | h'
        · have h1 := hBe f2 hf2 q h'
          refine ⟨h1.1, fun hq2 => ?_⟩
          by_cases h2 : f2 = e
          · rw [if_pos h2] at hq2
            exact (hl.hB q hq).2.2 hq2
          · rw [if_neg h2] at hq2
            exact h1.2 hq2
        · refine ⟨by omega, fun hq2 => ?_⟩
          by_cases h2 : f2 = e
          · rw [if_pos h2] at hq2
            exact (hl.hB q hq).2.2 hq2
          · rw [if_neg h2] at hq2
            obtain ⟨y, B2, hl2, _⟩ := h.lo f2 hf2
            have := (hl2.own.lt q hq2).2
            omega
    · obtain ⟨y, B2, hl2, hB2⟩ := h.lo f hf
      simp only [if_neg hfe]
      have ho := hl2.own
      refine ⟨y, B2, (hl2.kept2 hgr (fun b e2 => ⟨h.kk e f he hf (fun e3 => hfe e3.symm) b e2, fun hq => (hB2 e he b hq).2 e2⟩)).kept2 hg2 (fun b e2 => ?_), fun f2 hf2 q hq => ?_⟩
      · injection e2 with e2
        subst e2
        exact ⟨fun hq => (h.kW f hf _ hq).2 rfl, fun hq => (hB2 e he _ hq).1 rfl⟩
      · refine ⟨(hB2 f2 hf2 q hq).1, fun hq2 => ?_⟩
        by_cases h2 : f2 = e
        · rw [if_pos h2] at hq2
          rcases hvq q hq2 with h' | h'
          · exact (hB2 e he q hq).2 h'
          · have := (hl2.hB q hq).2.1; omega
        · rw [if_neg h2] at hq2
          exact (hB2 f2 hf2 q hq).2 hq2
end
end Go.Proofs.Ytihmmmodimionaa.Tr
/- pass: one container of a group, whose words fit each container there: the walk. -/
namespace Go.Proofs.Ytihmmmodimionaa.Tr
open Go.RowKit Go.Proofs.Ytihmmmodimionaa Go.Proofs.Ytihmmmodimionaa.Lx

structure PT (w0 w2 wr : World) (g cv n k : Nat) (G : Fo) (xs : List Value) (ws : Nat → List ByteArray) (ps : Nat → List (Int × Int)) (aw ap kv0 kv : Nat → Value) (K0 : Nat → Fo) (W : Nat → Prop) : Prop where
  c : CN w0 wr g cv n xs ws ps aw ap kv (fun e => if e < k then passL (K0 e) G else K0 e) W
  ov : ∀ e, e < n → ∀ q, (kv e).ownBlock = some q → (kv0 e).ownBlock = some q ∨ w2.heap.size ≤ q
  kp : ∀ q, q < w2.heap.size → q ≠ g → (∀ e, e < n → (kv0 e).ownBlock ≠ some q) → wr.heap[q]? = w2.heap[q]?
  bl : Below w0.heap.size w2 wr
/-- the box of the group's container, and the list that is to grow -/
structure PB (s g o : Nat) (vw vp : Value) (b : Bool) (vk u : Value) (x : World) : Prop where
  bx : BX s vw vp b vk x
  c : x.cell? ⟨g, o, none⟩ = some u
theorem below_grown {B : Nat} {w x y : World} {r : Option Nat} (h : Below B w x) (hg : x.grownBy y r) (hr : ∀ q, r = some q → B ≤ q) (hs : B ≤ x.heap.size) : Below B w y :=
  ⟨hg.os.trans h.os, hg.tape.trans h.tape, hg.output.trans h.output, Nat.le_trans h.size hg.size, fun i hi => (hg.block i (Nat.lt_of_lt_of_le hi hs) (fun e => by have := hr i e.symm; omega)).trans (h.block i hi)⟩
def PassN (w0 : World) (g cv n : Nat) (ws : Nat → List ByteArray) (ps : Nat → List (Int × Int)) (aw ap : Nat → Value) (K : Nat → Fo) (W : Nat → Prop) (w : World) (e : Ending) (w' : World) : Prop :=
  Below w0.heap.size w w' ∧ e = .returned (.slice (some ⟨g, 0, none⟩) n cv) ∧ ∃ xs kv, CN w0 w' g cv n xs ws ps aw ap kv K W
set_option maxHeartbeats 8000000 in
set_option maxRecDepth 100000 in
theorem pass_one (w0 w : World) (g cv n : Nat) (xs : List Value) (ws : Nat → List ByteArray) (ps : Nat → List (Int × Int)) (aw ap kv0 : Nat → Value) (K0 : Nat → Fo) (W D : Nat → Prop) (sw : List ByteArray) (sp : List (Int × Int)) (G : Fo) (ab ao c : Nat) (Aw Ap Ak : Option Addr) (cw cp ck : Nat) (ks : List Value)
    (hw0 : w0.heap.size ≤ w.heap.size) (hc : CN w0 w g cv n xs ws ps aw ap kv0 K0 W) (hn : n ≤ 1099511627776)
    (hab : ab < w.heap.size ∧ ab ≠ g ∧ ∀ e, e < n → (kv0 e).ownBlock ≠ some ab)
    (g0 : w.cell? ⟨ab, ao, none⟩ = some (.slice Aw sw.length cw)) (g1 : w.cell? ⟨ab, ao + 1, none⟩ = some (.slice Ap sp.length cp)) (g2 : w.cell? ⟨ab, ao + 2, none⟩ = some (.bool true)) (g3 : w.cell? ⟨ab, ao + 3, none⟩ = some (.slice Ak G.len ck))
    (hD : ∀ q, D q → q < w.heap.size ∧ q ≠ g ∧ ∀ e, e < n → (kv0 e).ownBlock ≠ some q)
    (hsw : Src w Aw sw.length cw 1 (sw.map Value.string)) (hswD : ∀ a, Aw = some a → D a.block) (hks : Src w Ak G.len ck 4 ks) (hkA : ∀ a, Ak = some a → D a.block) (hkF : FoV w D G ks) (hlf : leafF G = true) (hgg : Gd G)
    (h1 : 1 ≤ sw.length) (l1 : sw.length ≤ 1099511627776) (hfit : ∀ e, e < n → fitL (ws e) sw = true) (hwl : ∀ e, e < n → (ws e).length ≤ 1099511627776) (hcs : Lib.containsS sw ⟨#[60, 42, 62]⟩ = true) (hsz : ∀ e, e < n → szF (K0 e) + szF G ≤ 1099511627776) (hgk : ∀ e, e < n → Gd (K0 e)) :
    Calls Try.prog 90 #[.slice (some ⟨g, 0, none⟩) n cv, .slice (some ⟨ab, ao, none⟩) 1 c] w (PassN w0 g cv n ws ps aw ap (fun e => passL (K0 e) G) W w) := by
  obtain ⟨wb, wo, rfl⟩ := src_spot hsw h1 (Nat.le_refl _)
  have hgl := (hc.own.lt g rfl)
  have hgG : G.len ≤ 1099511627776 ∨ n = 0 := by
    rcases Nat.eq_zero_or_pos n with h | h
    · exact .inr h
    · have h2 := hsz 0 h; have h3 := len_sz G; exact .inl (by omega)
  have HC := hide hc
  have HD := hide hD
  have HSW := hide hsw
  have HKS := hide hks
  have HKF := hide hkF
  have HKA := hide hkA
  have HSD := hide (hswD _ rfl)
  have HFIT := hide hfit
  have HWL := hide hwl
  have HSZ := hide hsz
  have HGK := hide hgk
  have HAB := hide hab
  have HP := hide (And.intro hlf hgg)
  have HW0 := hide hw0
  have HGL := hide hgl
  have hb1 := bel_one w (NodeC (.slice (some ⟨wb, wo, none⟩) sw.length cw) (.slice Ap sp.length cp) true (.slice Ak G.len ck))
  have HB1 := hide hb1
  have HBX := hide (show BX w.heap.size (.slice (some ⟨wb, wo, none⟩) sw.length cw) (.slice Ap sp.length cp) true (.slice Ak G.len ck) (w.alloc (NodeC (.slice (some ⟨wb, wo, none⟩) sw.length cw) (.slice Ap sp.length cp) true (.slice Ak G.len ck))) from ⟨heap_new w _⟩)
  have HS1 := hide (show (w.alloc (NodeC (.slice (some ⟨wb, wo, none⟩) sw.length cw) (.slice Ap sp.length cp) true (.slice Ak G.len ck))).heap.size = w.heap.size + 1 from by simp)
  have HCT := hide (Try.slices_Contains_string wb wo sw.length cw sw ⟨#[60, 42, 62]⟩ (w.alloc (NodeC (.slice (some ⟨wb, wo, none⟩) sw.length cw) (.slice Ap sp.length cp) true (.slice Ak G.len ck))) (Nat.le_refl _) (by omega) (fun j hj => by
    rw [src_cells (hsw.below hb1) j (.string sw[j]) (by rw [List.getElem?_map, List.getElem?_eq_getElem hj]; rfl)]
    simp [List.getD_eq_getElem?_getD, hj]))
  rw [List.take_of_length_le (Nat.le_refl _), hcs] at HCT
  clear hc hD hsw hswD hks hkA hkF hlf hgg hfit hwl hcs hsz hgk hab hw0 hgl hb1
  go_enter Try.func90, Try.ntmps90
  go_wp2_with fail
  go_loopw [0, 12] (fun va j wr => va = .slice (some ⟨g, 0, none⟩) n cv ∧ ((j = .int .i64 0 ∧ wr = w) ∨ (j = .int .i64 1 ∧ Below w0.heap.size w wr ∧ ∃ xs kv, CN w0 wr g cv n xs ws ps aw ap kv (fun e => passL (K0 e) G) W))) (fun _ j _ => 1 - (intOf j).toNat)
  case atStart => exact ⟨rfl, .inl ⟨rfl, rfl⟩⟩
  case round =>
    rcases hrel with ⟨rfl, ⟨rfl, hw⟩ | ⟨rfl, hb, xs', kv', hc'⟩⟩
    · subst hw
      go_wp2_with fail
      refine HCT.out.mono ?_
      rintro e x0 ⟨rfl, rfl⟩
      have HBW := hide (HB1.out.mono HW0.out)
      have HKV := hide (show ∀ e, e < n → ∀ q, (kv0 e).ownBlock = some q → q < wr.heap.size from fun e he q hq => by
        obtain ⟨y, B, hl, _⟩ := HC.out.lo e he
        exact (hl.own.lt q hq).2)
      generalize wr.alloc (NodeC (.slice (some ⟨wb, wo, none⟩) sw.length cw) (.slice Ap sp.length cp) true (.slice Ak G.len ck)) = w2 at *
      have HPT := hide (show PT w0 w2 w2 g cv n 0 G xs ws ps aw ap kv0 kv0 K0 W from ⟨by
        have := HC.out.below HB1.out
        exact ⟨this.own, this.x0, this.x1, this.x2, this.x3, this.sw, this.sp, this.wW, this.kW, this.kk, fun e he => by simpa using this.lo e he⟩, fun e he q hq => .inl hq, fun q _ _ _ => rfl, Below.refl _ _⟩)
      have HS2 := hide (HSW.out.below HB1.out)
      have HK2 := hide (HKS.out.below HB1.out)
      have HF2 := hide (HKF.out.keep (fun q hq => HB1.out.block q (HD.out q hq).1))
      have HW2 := hide (Nat.le_trans HW0.out HB1.out.size)
      generalize hsb : wr.heap.size = sb at *
      clear g0 g1 g2 g3 HCT HC HSW HKS HKF HB1 HW0 hsb
      go_wp2_with fail
      go_loopw [7, 33] (fun vs j wx => vs = .bool true ∧ ∃ (k : Nat) (xs : List Value) (kv : Nat → Value), j = .int .i64 k ∧ k ≤ n ∧ PT w0 w2 wx g cv n k G xs ws ps aw ap kv0 kv K0 W) (fun _ j _ => n - (intOf j).toNat)
      case atStart => exact ⟨rfl, 0, xs, kv0, rfl, Nat.zero_le _, HPT.out⟩
      case round =>
        clear HPT
        obtain ⟨rfl, k, xs2, kv, rfl, hk, hX⟩ := hrel
        have HX := hide hX
        clear hX
        rcases Nat.lt_or_ge k n with hlt | hge
        · have hcn := HX.out.c
          obtain ⟨Au, cu, hau, hus, huB⟩ := hcn.sw k hlt
          obtain ⟨Aq, cq, haq, hqs, hqB⟩ := hcn.sp k hlt
          obtain ⟨y, B, hlk, hBk⟩ := hcn.lo k hlt
          rw [if_neg (Nat.lt_irrefl k)] at hlk
          obtain ⟨Akk, ckk, hkv⟩ := own_slice hlk.own
          have hx0 := hcn.own.cellAt (k * 4) (by omega)
          have hx1 := hcn.own.cellAt (k * 4 + 1) (by omega)
          have hx2 := hcn.own.cellAt (k * 4 + 2) (by omega)
          have hx3 := hcn.own.cellAt (k * 4 + 3) (by omega)
          rw [hcn.x0 k hlt, hau] at hx0
          rw [hcn.x1 k hlt, haq] at hx1
          rw [hcn.x2 k hlt] at hx2
          rw [hcn.x3 k hlt, hkv] at hx3
          have hsbg : sb < w2.heap.size ∧ sb ≠ g ∧ ∀ e, e < n → (kv0 e).ownBlock ≠ some sb := ⟨by have := HS1.out; omega, by have := HGL.out.2; omega, fun e he h => by have := HKV.out e he sb h; omega⟩
          have HSBG := hide hsbg
          have hDk : ∀ q, D q → wr.heap[q]? = w2.heap[q]? := fun q hq => HX.out.kp q (by have h1 := HS1.out; have h2 := (HD.out q hq).1; omega) (HD.out q hq).2.1 (HD.out q hq).2.2
          have HDK := hide hDk
          have hbx : BX sb (.slice (some ⟨wb, wo, none⟩) sw.length cw) (.slice Ap sp.length cp) true (.slice Ak G.len ck) wr := ⟨(HX.out.kp sb hsbg.1 hsbg.2.1 hsbg.2.2).trans HBX.out.h⟩
          have hswk : Src wr (some ⟨wb, wo, none⟩) sw.length cw 1 (sw.map Value.string) := src_keep HS2.out (fun a ha => by cases ha; exact hDk _ HSD.out)
          have c0 := lat_cell hx0
          have c1 := lat_cell hx1
          have c2 := lat_cell hx2
          have c3 := lat_cell hx3
          have n0 := lat_cell (cell_heap (j := 0) hbx.h rfl)
          have n1 := lat_cell (cell_heap (j := 1) hbx.h rfl)
          have n2 := lat_cell (cell_heap (j := 2) hbx.h rfl)
          have n3 := lat_cell (cell_heap (j := 3) hbx.h rfl)
          have d1 : decide (k < n) = true := decide_eq_true hlt
          have d1' : decide ((k : Int) < (n : Int)) = true := decide_eq_true (by omega)
          have d2 : ((k : Int) < (n : Int)) := by omega
          have hfk := HFIT.out k hlt
          have HFT := hide (fun y => fits_any (ws k) sw true true Au (some ⟨wb, wo, none⟩) cu cw (.slice Aq (ps k).length cq) (.slice Akk (K0 k).len ckk) (.slice Ap sp.length cp) (.slice Ak G.len ck) (lat wr y) (HWL.out k hlt) l1 (hus.below (lat_below _ y)) (hswk.below (lat_below _ y)))
          rw [hfk] at HFT
          have HCN := hide hcn
          have HLK := hide hlk
          have HBK := hide hBk
          have HKE := hide hkv
          have HBX3 := hide hbx
          have HX3 := hide hx3
          have HLT := hide hlt
          have hkk : (K0 k).len ≤ 1099511627776 := by have h1 := HSZ.out k hlt; have h2 := len_sz (K0 k); omega
          have hgg : G.len ≤ 1099511627776 := by have h1 := HSZ.out k hlt; have h2 := len_sz G; omega
          clear hcn hau hus huB haq hqs hqB hlk hBk hkv hx0 hx1 hx2 hx3 hsbg hDk hbx hswk hfk hk
          go_wp2_with fail
          refine wp_region_lat (by kernel_rfl) (by kernel_rfl) ?_
          repeat (first | go_big_quiet_step ((exact calls_lat (HFT.out _))) | quiet_step ((exact calls_lat (HFT.out _))))
          refine wpQuiet_nil ?_
          intro _ hlat
          obtain ⟨wq, rfl⟩ := hlat
          have HBL := hide (lat_below wr wq)
          have HCN1 := hide (HCN.out.below (lat_below wr wq))
          have HLK1 := hide (HLK.out.grow (grown_of_below (lat_below wr wq)) (fun b e => by cases e))
          have hpb : PB sb g (k * 4 + 3) (.slice (some ⟨wb, wo, none⟩) sw.length cw) (.slice Ap sp.length cp) true (.slice Ak G.len ck) (.slice Akk (K0 k).len ckk) (lat wr wq).drew := ⟨⟨(HBX3.out.below (lat_below wr wq)).h⟩, lat_cell HX3.out wq⟩
          have HDK1 := hide (show ∀ q, D q → (lat wr wq).heap[q]? = w2.heap[q]? from fun q hq => ((lat_below wr wq).block q (Nat.lt_of_lt_of_le (by have h1 := HS1.out; have h2 := (HD.out q hq).1; omega) HX.out.bl.size)).trans (HDK.out q hq))
          clear c0 c1 c2 c3 n0 n1 n2 n3 HFT HLK HBX3 HX3
          generalize lat wr wq = x1 at *
          have k0 := fun x => cell_heap (j := 3) (pin_in hpb x).bx.h rfl
          have k1 := fun x => (pin_in hpb x).c
          have HPB := hide hpb
          clear hpb
          go_wp2_with fail
          refine wp_region_tree (PB sb g (k * 4 + 3) (.slice (some ⟨wb, wo, none⟩) sw.length cw) (.slice Ap sp.length cp) true (.slice Ak G.len ck) (.slice Akk (K0 k).len ckk)) (fun k => ([12] : List Nat).contains k) (.take [0, 1, 2, 3, 4, 5, 6, 7, 8] (.step 9 (.step 10 (.step 11 (.step 12 .done))))) (by kernel_rfl) (by kernel_rfl) (by kernel_rfl) (by kernel_rfl) (.take (.cons (.zero) (.cons (.succ (.zero)) (.cons (.succ (.succ (.zero))) (.cons (.succ (.succ (.succ (.zero)))) (.cons (.succ (.succ (.succ (.succ (.zero))))) (.cons (.succ (.succ (.succ (.succ (.succ (.zero)))))) (.cons (.succ (.succ (.succ (.succ (.succ (.succ (.zero))))))) (.cons (.succ (.succ (.succ (.succ (.succ (.succ (.succ (.zero)))))))) (.cons (.succ (.succ (.succ (.succ (.succ (.succ (.succ (.succ (.zero))))))))) .nil))))))))) (.step (.succ (.succ (.succ (.succ (.succ (.succ (.succ (.succ (.succ (.zero)))))))))) rfl (.step (.succ (.succ (.succ (.succ (.succ (.succ (.succ (.succ (.succ (.succ (.zero))))))))))) rfl (.step (.succ (.succ (.succ (.succ (.succ (.succ (.succ (.succ (.succ (.succ (.succ (.zero)))))))))))) rfl (.step (.succ (.succ (.succ (.succ (.succ (.succ (.succ (.succ (.succ (.succ (.succ (.succ (.zero))))))))))))) rfl .done))))) ?hQ ?hS ?_
          case hQ => exact fun _ _ _ _ _ h => h
          case hS => exact HPB.out
          refine wpT_take ?_
          repeat (first | go_big_quiet_step ((fail)) | quiet_step ((fail)))
          refine wpQuiet_nil ?_
          have HBL2 := hide HBL.out.drew
          have HCN2 := hide (HCN1.out.below (Below.refl _ x1).drew)
          have HLK2 := hide (HLK1.out.grow (grown_of_below (Below.refl _ x1).drew) (fun b e => by cases e))
          have HDK2 := hide (show ∀ q, D q → x1.drew.heap[q]? = w2.heap[q]? from HDK1.out)
          clear HBL HCN1 HLK1 HDK1
          generalize x1.drew = x2 at *
          have hlk2 := HLK2.out
          rw [HKE.out] at hlk2
          have hwx : w2.heap.size ≤ x2.heap.size := Nat.le_trans HX.out.bl.size HBL2.out.size
          have hDx : ∀ q, D q → q < x2.heap.size ∧ (Value.slice Akk (K0 k).len ckk).ownBlock ≠ some q := fun q hq => by
            have h1 := HS1.out
            have h2 := HD.out q hq
            refine ⟨by omega, fun e => ?_⟩
            rw [← HKE.out] at e
            rcases HX.out.ov k HLT.out q e with h | h
            · exact h2.2.2 k HLT.out h
            · omega
          have HPL := hide (pass_leafs w0 (K0 k) G (.slice Akk (K0 k).len ckk) y ks B D Ak ck x2 (Nat.le_trans HW2.out hwx) hlk2 (src_keep HK2.out (fun a ha => HDK2.out _ (HKA.out a ha))) (HF2.out.keep (fun q hq => HDK2.out q hq)) hDx (fun a ha => hDx _ (HKA.out a ha)) (HSZ.out k HLT.out) (HGK.out k HLT.out) HP.out.2 HP.out.1)
          clear hlk2 hDx
          refine wpT_step rfl ?_
          intro K1 hK1
          go_wp2_with fail
          refine HPL.out.mono ?_
          rintro e x3 ⟨hgr, v', y', B', rfl, hl', hob, hbd⟩
          have hgr' : x2.grownBy x3 (kv k).ownBlock := by rw [HKE.out]; exact hgr
          have hkg : (kv k).ownBlock ≠ some g := fun e2 => (HCN2.out.kW k HLT.out g e2).2 rfl
          have hks : (kv k).ownBlock ≠ some sb := fun e2 => by
            rcases HX.out.ov k HLT.out sb e2 with h | h
            · exact HSBG.out.2.2 k HLT.out h
            · have := HSBG.out.1; omega
          have hpb3 : PB sb g (k * 4 + 3) (.slice (some ⟨wb, wo, none⟩) sw.length cw) (.slice Ap sp.length cp) true (.slice Ak G.len ck) (.slice Akk (K0 k).len ckk) x3 := by
            have hpb2 : PB sb g (k * 4 + 3) (.slice (some ⟨wb, wo, none⟩) sw.length cw) (.slice Ap sp.length cp) true (.slice Ak G.len ck) (.slice Akk (K0 k).len ckk) x2 := ⟨⟨HPB.out.bx.h⟩, HPB.out.c⟩
            exact ⟨⟨heap_grown hpb2.bx.h hgr' hks⟩, (cell_block (a := ⟨g, k * 4 + 3, none⟩) (hgr'.block g ((HCN2.out.own.lt g rfl).2) (fun e2 => hkg e2.symm))).trans hpb2.c⟩
          have HPB3 := hide hpb3
          have c4 := hpb3.c
          have f4 := (HCN2.out.own.kept hgr' (.inr (fun e2 => hkg e2.symm))).frozenAt (k * 4 + 3)
          have hob' : v'.ownBlock = (kv k).ownBlock ∨ ∀ q, v'.ownBlock = some q → x2.heap.size ≤ q := by rw [HKE.out]; exact hob
          have hnew := HCN2.out.pass HLT.out hgr' HBK.out hl' hob' hbd (w1 := x2)
          obtain ⟨Bv, dv, rfl⟩ := own_slice hl'.own
          have hg3 := only_set (only_refl g x3) (k * 4 + 3) (.slice Bv (passL (K0 k) G).len dv)
          have hkge : ∀ q, (kv k).ownBlock = some q → w0.heap.size ≤ q := fun q hq => (HLK2.out.own.lt q hq).1
          have hbfin : Below w0.heap.size w2 (x3.setCell ⟨g, k * 4 + 3, none⟩ (.slice Bv (passL (K0 k) G).len dv)) := by
            have b1 := below_lo HX.out.bl HBL2.out (Nat.le_trans HW2.out HX.out.bl.size)
            have b2 := below_grown b1 hgr' hkge (Nat.le_trans HW2.out hwx)
            exact below_grown b2 hg3 (fun q e2 => by injection e2 with e2; have := (HCN2.out.own.lt g rfl).1; omega) (Nat.le_trans (Nat.le_trans HW2.out hwx) hgr.size)
          have HF := hide (show PT w0 w2 (x3.setCell ⟨g, k * 4 + 3, none⟩ (.slice Bv (passL (K0 k) G).len dv)) g cv n (k + 1) G (xs2.set (k * 4 + 3) (.slice Bv (passL (K0 k) G).len dv)) ws ps aw ap kv0 (fun f => if f = k then .slice Bv (passL (K0 k) G).len dv else kv f) K0 W from by
            refine ⟨⟨hnew.own, hnew.x0, hnew.x1, hnew.x2, hnew.x3, hnew.sw, hnew.sp, hnew.wW, hnew.kW, hnew.kk, fun e he => ?_⟩, fun e he q hq => ?_, fun q h1 h2 h3 => ?_, hbfin⟩
            · obtain ⟨yy, BB, hll, hBB⟩ := hnew.lo e he
              refine ⟨yy, BB, ?_, hBB⟩
              by_cases hek : e = k
              · subst hek
                simp only [if_pos rfl, if_pos (Nat.lt_succ_self e)] at hll ⊢
                exact hll
              · by_cases hek2 : e < k
                · simp only [if_neg hek, if_pos hek2, if_pos (show e < k + 1 by omega)] at hll ⊢
                  exact hll
                · simp only [if_neg hek, if_neg hek2, if_neg (show ¬ e < k + 1 by omega)] at hll ⊢
                  exact hll
            · by_cases hek : e = k
              · rw [if_pos hek] at hq
                rcases hob' with h | h
                · rw [h] at hq
                  have := HX.out.ov k HLT.out q hq
                  rw [hek]
                  exact this
                · exact .inr (Nat.le_trans hwx (h q hq))
              · rw [if_neg hek] at hq
                exact HX.out.ov e he q hq
            · have hq3 : q < x3.heap.size := Nat.lt_of_lt_of_le h1 (Nat.le_trans hwx hgr.size)
              rw [hg3.block q hq3 (fun e2 => h2 (by injection e2)), hgr'.block q (Nat.lt_of_lt_of_le h1 hwx) (fun e2 => by
                rcases HX.out.ov k HLT.out q e2.symm with h | h
                · exact h3 k HLT.out h
                · omega), HBL2.out.block q (Nat.lt_of_lt_of_le h1 HX.out.bl.size)]
              exact HX.out.kp q h1 h2 h3)
          clear hgr hl' hob hbd hgr' hkg hks hpb3 hob' hnew hg3 hkge hbfin k0 k1 HPL
          refine hK1.out _ _ (fun _ => pin_mem HPB3.out) ?_
          clear hK1
          refine wpT_step rfl ?_
          intro K1 hK1
          go_wp2_with fail
          refine hK1.out _ _ (fun _ => pin_mem HPB3.out) ?_
          clear hK1
          refine wpT_step rfl ?_
          intro K1 hK1
          go_wp2_with fail
          refine hK1.out _ _ (fun _ => pin_mem HPB3.out) ?_
          clear hK1
          refine wpT_step rfl ?_
          intro K1 hK1
          go_wp2_with fail
          refine hK1.out _ _ (fun h => by cases h) ?_
          clear hK1
          refine wpT_done ?_
          go_wp2_with fail
          go_roundw
          case rel => exact ⟨rfl, k + 1, _, _, by go_num, HLT.out, HF.out⟩
          case measure => have := HLT.out; simp [intOf]; omega
        · have hkn : k = n := by omega
          have d1 : decide (k < n) = false := decide_eq_false (by omega)
          have d1' : decide ((k : Int) < (n : Int)) = false := decide_eq_false (by omega)
          have HF := hide (show CN w0 wr g cv n xs2 ws ps aw ap kv (fun e => passL (K0 e) G) W from by
            have := HX.out.c
            refine ⟨this.own, this.x0, this.x1, this.x2, this.x3, this.sw, this.sp, this.wW, this.kW, this.kk, fun e he => ?_⟩
            obtain ⟨yy, BB, hll, hBB⟩ := this.lo e he
            rw [if_pos (by omega)] at hll
            exact ⟨yy, BB, hll, hBB⟩)
          have HBF := hide (below_two HBW.out HX.out.bl)
          clear hkn hge hk
          go_wp2_with fail
          go_roundw
          case rel => exact ⟨rfl, .inr ⟨by go_num, HBF.out, _, _, HF.out⟩⟩
          case measure => simp [intOf]
    · have HB := hide hb
      have HCC := hide hc'
      clear hb hc'
      go_wp2_with fail
      go_ret
      exact ⟨HB.out, rfl, _, _, HCC.out⟩
end Go.Proofs.Ytihmmmodimionaa.Tr
/- Containers side by side: one more. -/
namespace Go.Proofs.Ytihmmmodimionaa.Tr
open Go.RowKit Go.Proofs.Ytihmmmodimionaa Go.Proofs.Ytihmmmodimionaa.Lx

structure CM (w0 wr : World) (va : Value) (n : Nat) (xs : List Value) (ws : Nat → List ByteArray) (ps : Nat → List (Int × Int)) (aw ap kv : Nat → Value) (K : Nat → Fo) (W : Nat → Prop) : Prop where
  own : wr.ownsRow w0.heap.size 44 4 va n xs
  x0 : ∀ e, e < n → xs[e * 4]? = some (aw e)
  x1 : ∀ e, e < n → xs[e * 4 + 1]? = some (ap e)
  x2 : ∀ e, e < n → xs[e * 4 + 2]? = some (.bool true)
  x3 : ∀ e, e < n → xs[e * 4 + 3]? = some (kv e)
  sw : ∀ e, e < n → StrV wr W (aw e) (ws e)
  sp : ∀ e, e < n → PosV wr W (ap e) (ps e)
  wW : ∀ q, W q → w0.heap.size ≤ q ∧ q < wr.heap.size ∧ va.ownBlock ≠ some q
  kW : ∀ e, e < n → ∀ q, (kv e).ownBlock = some q → ¬ W q ∧ va.ownBlock ≠ some q
  kk : ∀ e f, e < n → f < n → e ≠ f → ∀ q, (kv e).ownBlock = some q → (kv f).ownBlock ≠ some q
  lo : ∀ e, e < n → ∃ y B, Lo w0 wr (kv e) (K e) y B ∧ ∀ q, B q → va.ownBlock ≠ some q ∧ ∀ f, f < n → (kv f).ownBlock ≠ some q
theorem CM.start {w0 wr : World} {W : Nat → Prop} (hW : ∀ q, W q → w0.heap.size ≤ q ∧ q < wr.heap.size) : CM w0 wr (.slice none 0 0) 0 [] (fun _ => []) (fun _ => []) (fun _ => .slice none 0 0) (fun _ => .slice none 0 0) (fun _ => .slice none 0 0) (fun _ => .nil) W :=
  ⟨⟨rfl, .inl ⟨rfl, rfl⟩⟩, fun e he => absurd he (Nat.not_lt_zero e), fun e he => absurd he (Nat.not_lt_zero e), fun e he => absurd he (Nat.not_lt_zero e), fun e he => absurd he (Nat.not_lt_zero e), fun e he => absurd he (Nat.not_lt_zero e), fun e he => absurd he (Nat.not_lt_zero e), fun q hq => ⟨(hW q hq).1, (hW q hq).2, fun e => by cases e⟩, fun e he => absurd he (Nat.not_lt_zero e), fun e f he => absurd he (Nat.not_lt_zero e), fun e he => absurd he (Nat.not_lt_zero e)⟩
section
variable {w0 wr x : World} {n : Nat} {va : Value} {xs : List Value} {ws : Nat → List ByteArray} {ps : Nat → List (Int × Int)} {aw ap kv : Nat → Value} {K : Nat → Fo} {W : Nat → Prop}
theorem CM.cn {g cv : Nat} (h : CM w0 wr (.slice (some ⟨g, 0, none⟩) n cv) n xs ws ps aw ap kv K W) : CN w0 wr g cv n xs ws ps aw ap kv K W := by
  have ne : ∀ q, (Value.slice (some ⟨g, 0, none⟩) n cv).ownBlock ≠ some q → q ≠ g := fun q h e => h (by rw [e]; rfl)
  refine ⟨h.own, h.x0, h.x1, h.x2, h.x3, h.sw, h.sp, fun q hq => ⟨(h.wW q hq).1, (h.wW q hq).2.1, ne q (h.wW q hq).2.2⟩, fun e he q hq => ⟨(h.kW e he q hq).1, ne q (h.kW e he q hq).2⟩, h.kk, fun e he => ?_⟩
  obtain ⟨y, B, hl, hB⟩ := h.lo e he
  exact ⟨y, B, hl, fun f hf q hq => ⟨ne q (hB q hq).1, (hB q hq).2 f hf⟩⟩
/-- growth elsewhere -/
theorem CM.kept {row : Option Nat} (h : CM w0 wr va n xs ws ps aw ap kv K W) (hg : wr.grownBy x row) (hr : ∀ b, row = some b → ¬ W b ∧ va.ownBlock ≠ some b ∧ ∀ e, e < n → (kv e).ownBlock ≠ some b ∧ ∀ y B, Lo w0 wr (kv e) (K e) y B → ¬ B b) : CM w0 x va n xs ws ps aw ap kv K W := by
  refine ⟨h.own.kept hg ?_, h.x0, h.x1, h.x2, h.x3, fun e he => (h.sw e he).keep (fun q hq => hg.block q (h.wW q hq).2.1 (fun e2 => (hr q e2.symm).1 hq)), fun e he => (h.sp e he).keep (fun q hq => hg.block q (h.wW q hq).2.1 (fun e2 => (hr q e2.symm).1 hq)), fun q hq => ⟨(h.wW q hq).1, Nat.lt_of_lt_of_le (h.wW q hq).2.1 hg.size, (h.wW q hq).2.2⟩, h.kW, h.kk, fun e he => ?_⟩
  · cases hv : va.ownBlock with
    | none => exact .inl rfl
    | some q => exact .inr (fun e2 => (hr q e2.symm).2.1 hv)
  · obtain ⟨y, B, hl, hB⟩ := h.lo e he
    exact ⟨y, B, hl.kept2 hg (fun b e2 => ⟨((hr b e2).2.2 e he).1, ((hr b e2).2.2 e he).2 y B hl⟩), hB⟩
theorem CM.below (h : CM w0 wr va n xs ws ps aw ap kv K W) (hb : Below wr.heap.size wr x) : CM w0 x va n xs ws ps aw ap kv K W := h.kept (grown_of_below hb) (fun b e => by cases e)
/-- one more: what it bears has come since -/
theorem CM.push {y : World} {v' vw vp vk : Value} {wn : List ByteArray} {pn : List (Int × Int)} {Kn : Fo} {yk : List Value} {BK : Nat → Prop} (h0 : CM w0 wr va n xs ws ps aw ap kv K W) (hb : Below wr.heap.size wr x)
    (hsw : StrV x W vw wn) (hsp : PosV x W vp pn) (hk : Lo w0 x vk Kn yk BK) (hkn : ∀ q, vk.ownBlock = some q → wr.heap.size ≤ q) (hbn : ∀ q, BK q → W q ∨ wr.heap.size ≤ q)
    (ho : y.ownsRow w0.heap.size 44 4 v' (n + 1) (xs ++ [vw, vp, .bool true, vk])) (hg : (x.alloc (NodeC vw vp true vk)).grownBy y va.ownBlock) (hv : v'.ownBlock = va.ownBlock ∨ v'.ownBlock = some (x.heap.size + 1)) :
    CM w0 y v' (n + 1) (xs ++ [vw, vp, .bool true, vk]) (fun e => if e = n then wn else ws e) (fun e => if e = n then pn else ps e) (fun e => if e = n then vw else aw e) (fun e => if e = n then vp else ap e) (fun e => if e = n then vk else kv e) (fun e => if e = n then Kn else K e) W := by
  have h := h0.below hb
  have o1 : ∀ q, W q → q < wr.heap.size := fun q hq => (h0.wW q hq).2.1
  have o2 : ∀ q, va.ownBlock = some q → q < wr.heap.size := fun q hq => (h0.own.lt q hq).2
  have o3 : ∀ e, e < n → ∀ q, (kv e).ownBlock = some q → q < wr.heap.size := fun e he q hq => by
    obtain ⟨_, _, hl, _⟩ := h0.lo e he
    exact (hl.own.lt q hq).2
  have hxl : xs.length = n * 4 := h.own.1
  have ha := World.grownBy_alloc x (NodeC vw vp true vk) none
  have hWx : ∀ q, W q → y.heap[q]? = x.heap[q]? := fun q hq => by
    rw [hg.block q (Nat.lt_of_lt_of_le (h.wW q hq).2.1 ha.size) (fun e => (h.wW q hq).2.2 e.symm)]
    exact ha.block q (h.wW q hq).2.1 (fun e => by cases e)
  have hv' : ∀ q, q < x.heap.size → va.ownBlock ≠ some q → v'.ownBlock ≠ some q := fun q h1 h2 h3 => by
    rcases hv with h4 | h4
    · exact h2 (by rw [← h4]; exact h3)
    · rw [h4] at h3; injection h3 with h3; omega
  have hvkx : ∀ q, vk.ownBlock = some q → q < x.heap.size := fun q hq => (hk.own.lt q hq).2
  have hkvx : ∀ e, e < n → ∀ q, (kv e).ownBlock = some q → q < x.heap.size := fun e he q hq => by
    obtain ⟨_, _, hl, _⟩ := h.lo e he
    exact (hl.own.lt q hq).2
  have grow : ∀ {v : Value} {F : Fo} {zs : List Value} {B : Nat → Prop}, Lo w0 x v F zs B → (∀ q, va.ownBlock = some q → v.ownBlock ≠ some q ∧ ¬ B q) → Lo w0 y v F zs B := fun hl hr => (hl.grow ha (fun b e => by cases e)).kept2 hg (fun b e => hr b e)
  refine ⟨ho, fun e he => ?_, fun e he => ?_, fun e he => ?_, fun e he => ?_, fun e he => ?_, fun e he => ?_, fun q hq => ⟨(h.wW q hq).1, Nat.lt_of_lt_of_le (h.wW q hq).2.1 (Nat.le_trans ha.size hg.size), hv' q (h.wW q hq).2.1 (h.wW q hq).2.2⟩, fun e he q hq => ?_, fun e f he hf hne q hq => ?_, fun e he => ?_⟩
  · by_cases hen : e = n
    · subst hen; rw [if_pos rfl, List.getElem?_append_right (by omega), hxl, show e * 4 - e * 4 = 0 by omega]; rfl
    · rw [if_neg hen, List.getElem?_append_left (by omega)]; exact h.x0 e (by omega)
  · by_cases hen : e = n
    · subst hen; rw [if_pos rfl, List.getElem?_append_right (by omega), hxl, show e * 4 + 1 - e * 4 = 1 by omega]; rfl
    · rw [if_neg hen, List.getElem?_append_left (by omega)]; exact h.x1 e (by omega)
  · by_cases hen : e = n
    · subst hen; rw [List.getElem?_append_right (by omega), hxl, show e * 4 + 2 - e * 4 = 2 by omega]; rfl
    · rw [List.getElem?_append_left (by omega)]; exact h.x2 e (by omega)
  · by_cases hen : e = n
    · subst hen; rw [if_pos rfl, List.getElem?_append_right (by omega), hxl, show e * 4 + 3 - e * 4 = 3 by omega]; rfl
    · rw [if_neg hen, List.getElem?_append_left (by omega)]; exact h.x3 e (by omega)
  · by_cases hen : e = n
    · simp only [if_pos hen]; exact hsw.keep hWx
    · simp only [if_neg hen]; exact (h.sw e (by omega)).keep hWx
  · by_cases hen : e = n
    · simp only [if_pos hen]; exact hsp.keep hWx
    · simp only [if_neg hen]; exact (h.sp e (by omega)).keep hWx
  · by_cases hen : e = n
    · rw [if_pos hen] at hq
      have h1 := hkn q hq
      exact ⟨fun hw => by have := o1 q hw; omega, hv' q (hvkx q hq) (fun e2 => by have := o2 q e2; omega)⟩
    · rw [if_neg hen] at hq
      exact ⟨(h.kW e (by omega) q hq).1, hv' q (hkvx e (by omega) q hq) (h.kW e (by omega) q hq).2⟩
  · by_cases hen : e = n
    · rw [if_pos hen] at hq
      rw [if_neg (by omega : ¬ f = n)]
      intro hq2
      have h1 := hkn q hq
      have := o3 f (by omega) q hq2
      omega
    · rw [if_neg hen] at hq
      by_cases hfn : f = n
      · rw [if_pos hfn]
        intro hq2
        have h1 := hkn q hq2
        have := o3 e (by omega) q hq
        omega
      · rw [if_neg hfn]
        exact h.kk e f (by omega) (by omega) hne q hq
  · by_cases hen : e = n
    · simp only [if_pos hen]
      refine ⟨yk, BK, grow hk (fun q e2 => ⟨fun hq => by have h1 := hkn q hq; have := o2 q e2; omega, fun hq => ?_⟩), fun q hq => ⟨hv' q (hk.hB q hq).2.1 (fun e2 => ?_), fun f hf hq2 => ?_⟩⟩
      · rcases hbn q hq with h1 | h1
        · exact (h.wW q h1).2.2 e2
        · have := o2 q e2; omega
      · rcases hbn q hq with h1 | h1
        · exact (h.wW q h1).2.2 e2
        · have := o2 q e2; omega
      · by_cases hfn : f = n
        · rw [if_pos hfn] at hq2
          exact (hk.hB q hq).2.2 hq2
        · rw [if_neg hfn] at hq2
          rcases hbn q hq with h1 | h1
          · exact (h.kW f (by omega) q hq2).1 h1
          · have := o3 f (by omega) q hq2; omega
    · simp only [if_neg hen]
      obtain ⟨yy, B, hl0, hB⟩ := h0.lo e (by omega)
      have hl := hl0.grow (grown_of_below hb) (fun b e => by cases e)
      refine ⟨yy, B, grow hl (fun q e2 => ⟨fun hq => (h.kW e (by omega) q hq).2 e2, fun hq => (hB q hq).1 e2⟩), fun q hq => ⟨hv' q (hl.hB q hq).2.1 (hB q hq).1, fun f hf hq2 => ?_⟩⟩
      by_cases hfn : f = n
      · rw [if_pos hfn] at hq2
        have h1 := hkn q hq2
        have h2 := (hl0.hB q hq).2.1
        omega
      · rw [if_neg hfn] at hq2
        exact (hB q hq).2 f (by omega) hq2
end
end Go.Proofs.Ytihmmmodimionaa.Tr
/- inherited, where the first statement applies a group of one container, and containers stand behind it: the walk. -/
namespace Go.Proofs.Ytihmmmodimionaa.Tr
open Go.RowKit Go.Proofs.Ytihmmmodimionaa Go.Proofs.Ytihmmmodimionaa.Lx

def foN (ws : Nat → List ByteArray) (ps : Nat → List (Int × Int)) (K : Nat → Fo) : Nat → Fo
  | 0 => .nil
  | n + 1 => (foN ws ps K n).app (.cons (ws n) (ps n) true (K n) .nil)
theorem foN_upd {ws : Nat → List ByteArray} {ps : Nat → List (Int × Int)} {K : Nat → Fo} {wn : List ByteArray} {pn : List (Int × Int)} {Kn : Fo} (m : Nat) : ∀ n, n ≤ m → foN (fun e => if e = m then wn else ws e) (fun e => if e = m then pn else ps e) (fun e => if e = m then Kn else K e) n = foN ws ps K n
  | 0, _ => rfl
  | n + 1, h => by
    rw [foN, foN, foN_upd m n (by omega)]
    simp only [if_neg (show ¬ n = m by omega)]
theorem foN_len (ws : Nat → List ByteArray) (ps : Nat → List (Int × Int)) (K : Nat → Fo) : ∀ n, (foN ws ps K n).len = n
  | 0 => rfl
  | n + 1 => by rw [foN, Fo.len_app, foN_len ws ps K n]; rfl
def allP (P : List ByteArray → Fo → Prop) : Fo → Prop
  | .nil => True
  | .cons ws _ _ K R => P ws K ∧ allP P R
theorem all_app {P : List ByteArray → Fo → Prop} : ∀ (F G : Fo), allP P (F.app G) → allP P F ∧ allP P G
  | .nil, G, h => ⟨trivial, h⟩
  | .cons ws ps b K R, G, h => ⟨⟨h.1, (all_app R G h.2).1⟩, (all_app R G h.2).2⟩
theorem all_foN {P : List ByteArray → Fo → Prop} {ws : Nat → List ByteArray} {ps : Nat → List (Int × Int)} {K : Nat → Fo} : ∀ n, allP P (foN ws ps K n) → ∀ e, e < n → P (ws e) (K e)
  | 0, _, e, he => absurd he (Nat.not_lt_zero e)
  | n + 1, h, e, he => by
    rw [foN] at h
    have := all_app _ _ h
    by_cases hen : e = n
    · rw [hen]; exact this.2.1
    · exact all_foN n this.1 e (by omega)
/-- containers in which nothing applies a group -/
def blks : Fo → Bool
  | .nil => true
  | .cons ws _ b K R => (b && (!applB ws && noAp K)) && blks R
structure IT (w0 w wr : World) (va vn : Value) (gn : ByteArray) (n : Nat) (R R' : Fo) (xs0 xs : List Value) (ws : Nat → List ByteArray) (ps : Nat → List (Int × Int)) (aw ap kv : Nat → Value) (K : Nat → Fo) (D : Nat → Prop) : Prop where
  bl : Below w.heap.size w wr
  c : CM w0 wr va n xs ws ps aw ap kv K D
  ov : ∀ q, va.ownBlock = some q → w.heap.size ≤ q
  ok : ∀ e, e < n → ∀ q, (kv e).ownBlock = some q → w.heap.size ≤ q
  nm : wr.ownsRow w.heap.size 9 1 vn 1 [.string gn]
  fo : FoV w D R' (xs0.drop ((n + 1) * 4))
  len : n + R'.len = R.len
  eq : (foN ws ps K n).app R' = R
  bk : blks R' = true
  gd : Gd R'
  sz : szF R' ≤ 1099511627776
/-- what inherited hands back, at the outermost list -/
def InhTop (w0 : World) (R G : Fo) (D : Nat → Prop) (w : World) (e : Ending) (w' : World) : Prop :=
  Below w0.heap.size w w' ∧ ∃ g cv n xs ws ps aw ap kv K, e = .returned (.slice (some ⟨g, 0, none⟩) n cv) ∧ CN w0 w' g cv n xs ws ps aw ap kv (fun e => passL (K e) G) D ∧ foN ws ps K n = R
set_option maxHeartbeats 8000000 in
set_option maxRecDepth 100000 in
theorem inherited_top (w0 w : World) (y gn : ByteArray) (ps0 : List (Int × Int)) (b0 : Bool) (K0 R G : Fo) (A : Option Addr) (c : Nat) (xs0 : List Value) (D DG : Nat → Prop) (gm : Nat)
    (ab ao gc : Nat) (sw : List ByteArray) (sp : List (Int × Int)) (Aw Ap Ak : Option Addr) (cw cp ck : Nat) (ks : List Value)
    (hw0 : w0.heap.size ≤ w.heap.size) (hs : Src w A (R.len + 1) c 4 xs0) (hf : FoV w D (.cons [y, gn] ps0 b0 K0 R) xs0) (hD : ∀ q, D q → w0.heap.size ≤ q ∧ q < w.heap.size) (hA : ∀ a, A = some a → a.block < w.heap.size) (hap : applB [y, gn] = true) (hbk : blks R = true) (hgd : Gd R) (hszR : szF R ≤ 1099511627776) (hR : 1 ≤ R.len)
    (hm : Mp1 gm gn (.slice (some ⟨ab, ao, none⟩) 1 gc) w)
    (hab : ab < w.heap.size) (g0 : w.cell? ⟨ab, ao, none⟩ = some (.slice Aw sw.length cw)) (g1 : w.cell? ⟨ab, ao + 1, none⟩ = some (.slice Ap sp.length cp)) (g2 : w.cell? ⟨ab, ao + 2, none⟩ = some (.bool true)) (g3 : w.cell? ⟨ab, ao + 3, none⟩ = some (.slice Ak G.len ck))
    (hDG : ∀ q, DG q → q < w.heap.size) (hsw : Src w Aw sw.length cw 1 (sw.map Value.string)) (hswD : ∀ a, Aw = some a → DG a.block) (hks : Src w Ak G.len ck 4 ks) (hkA : ∀ a, Ak = some a → DG a.block) (hkF : FoV w DG G ks) (hlf : leafF G = true) (hgg : Gd G) (h1 : 1 ≤ sw.length) (l1 : sw.length ≤ 1099511627776) (hcs : Lib.containsS sw ⟨#[60, 42, 62]⟩ = true)
    (hall : allP (fun ws K => fitL ws sw = true ∧ ws.length ≤ 1099511627776 ∧ szF K + szF G ≤ 1099511627776 ∧ Gd K) R) :
    Calls Try.prog 73 #[.slice A (R.len + 1) c, .map (some gm)] w (InhTop w0 R G D w) := by
  obtain ⟨ni, nz0, nz, ns, nb⟩ := info_parts infoN
  obtain ⟨si, sz0, sz, ss, sb⟩ := info_parts infoS
  have hRl : R.len ≤ 1099511627776 := Nat.le_trans (len_sz R) hszR
  obtain ⟨vw, vp, A0, k0c, ys0, xs', e0, hvw, hvp, hk0, hk0A, hk0F, hRF⟩ := hf
  obtain ⟨fb, fo, rfl⟩ := src_spot hs (by omega) (by decide)
  have hsc := src_cells hs
  have hfb := hA _ rfl
  obtain ⟨Ay, cy, rfl, hys, hyB⟩ := hvw
  obtain ⟨Aq, cq, rfl, hqs, hqB⟩ := hvp
  have hcells := fun (x : World) (hx : Below w.heap.size w x) (j : Nat) (u : Value) (h : xs0[j]? = some u) => cell_lo (a := ⟨fb, fo + j, none⟩) hx hfb (hsc j u h)
  have HCE := hide hcells
  have HD := hide hD
  have HW0 := hide hw0
  have HRF := hide (show FoV w D R (xs0.drop 4) from by rw [e0]; exact hRF)
  have x0 : xs0[0]? = some (.slice Ay 2 cy) := by rw [e0]; rfl
  have x1 : xs0[1]? = some (.slice Aq ps0.length cq) := by rw [e0]; rfl
  have x2 : xs0[2]? = some (.bool b0) := by rw [e0]; rfl
  have x3 : xs0[3]? = some (.slice A0 K0.len k0c) := by rw [e0]; rfl
  obtain ⟨yb, yo, rfl⟩ := src_spot hys (by simp) (Nat.le_refl _)
  have hyc := src_cells hys 1 (.string gn) rfl
  have hcap : 2 ≤ cy := (hyB _ rfl).2
  have hyl := (HD.out _ (hyB _ rfl).1).2
  have HYC := hide (show ∀ x, Below w.heap.size w x → x.cell? ⟨yb, yo + 1, none⟩ = some (.string gn) from fun x hx => cell_lo (a := ⟨yb, yo + 1, none⟩) hx hyl hyc)
  have HAP := hide (fun (x : World) (hx : Below w.heap.size w x) => applies_any [y, gn] b0 (some ⟨yb, yo, none⟩) cy (.slice Aq ps0.length cq) (.slice A0 K0.len k0c) x (by simp) (by simp) (hys.below hx))
  rw [hap] at HAP
  have HB := hide (And.intro hbk (And.intro hgd hszR))
  have HM := hide hm
  have z1 : decide (2 ≤ cy) = true := decide_eq_true hcap
  have z2 : ((2 : Int) ≤ (cy : Int)) := by omega
  have z3 : (cy == 1) = false := beq_eq_false_iff_ne.2 (by omega)
  have z4 : decide (cy = 1) = false := decide_eq_false (by omega)
  have c0 := HCE.out w (Below.refl _ _) 0 _ x0
  have c1 := HCE.out w (Below.refl _ _) 1 _ x1
  have c2 := HCE.out w (Below.refl _ _) 2 _ x2
  have c3 := HCE.out w (Below.refl _ _) 3 _ x3
  rw [Nat.add_zero] at c0
  have hall2 : ∀ (n : Nat) (ws : Nat → List ByteArray) (ps : Nat → List (Int × Int)) (K : Nat → Fo), foN ws ps K n = R → ∀ e, e < n → fitL (ws e) sw = true ∧ (ws e).length ≤ 1099511627776 ∧ szF (K e) + szF G ≤ 1099511627776 ∧ Gd (K e) := fun n ws ps K heq e he => all_foN (P := fun ws K => fitL ws sw = true ∧ ws.length ≤ 1099511627776 ∧ szF K + szF G ≤ 1099511627776 ∧ Gd K) n (by rw [heq]; exact hall) e he
  have HPG := hide (fun (x : World) (hx : Below w.heap.size w x) (g cv n : Nat) (xs : List Value) (ws : Nat → List ByteArray) (ps : Nat → List (Int × Int)) (aw ap kv : Nat → Value) (K : Nat → Fo) (hc : CN w0 x g cv n xs ws ps aw ap kv K D) (hn : n ≤ 1099511627776) (hg : w.heap.size ≤ g) (hkv : ∀ e, e < n → ∀ q, (kv e).ownBlock = some q → w.heap.size ≤ q) (heq : foN ws ps K n = R) =>
    pass_one w0 x g cv n xs ws ps aw ap kv K D DG sw sp G ab ao gc Aw Ap Ak cw cp ck ks (Nat.le_trans hw0 hx.size) hc hn ⟨Nat.lt_of_lt_of_le hab hx.size, by omega, fun e he h => by have := hkv e he ab h; omega⟩ (cell_lo (a := ⟨ab, ao, none⟩) hx hab g0) (cell_lo (a := ⟨ab, ao + 1, none⟩) hx hab g1) (cell_lo (a := ⟨ab, ao + 2, none⟩) hx hab g2) (cell_lo (a := ⟨ab, ao + 3, none⟩) hx hab g3) (fun q hq => ⟨Nat.lt_of_lt_of_le (hDG q hq) hx.size, by have := hDG q hq; omega, fun e he h => by have h2 := hkv e he q h; have := hDG q hq; omega⟩) (hsw.below hx) hswD (hks.below hx) hkA (hkF.keep (fun q hq => hx.block q (hDG q hq))) hlf hgg h1 l1
      (fun e he => (hall2 n ws ps K heq e he).1) (fun e he => (hall2 n ws ps K heq e he).2.1) hcs (fun e he => (hall2 n ws ps K heq e he).2.2.1) (fun e he => (hall2 n ws ps K heq e he).2.2.2))
  clear hs hD hA hap hbk hgd hszR hm hab g0 g1 g2 g3 hDG hsw hswD hks hkA hkF hlf hgg hcs hall hall2 hcells hRF hk0 hk0A hk0F hys hyB hqs hqB hyc hyl hsc hfb x0 x1 x2 x3 hw0 hcap
  go_enter Try.func73, Try.ntmps73
  go_wp2_with fail
  go_loopw [5, 6, 13] (fun va vn j wr => (j = .int .i64 0 ∧ va = .slice none 0 0 ∧ vn = .slice none 0 0 ∧ wr = w) ∨ (∃ (n : Nat) (R' : Fo) (xs : List Value) (ws : Nat → List ByteArray) (ps : Nat → List (Int × Int)) (aw ap kv : Nat → Value) (K : Nat → Fo), j = .int .i64 ((n : Int) + 1) ∧ IT w0 w wr va vn gn n R R' xs0 xs ws ps aw ap kv K D)) (fun _ _ j _ => R.len + 1 - (intOf j).toNat)
  case atStart => exact .inl ⟨rfl, rfl, rfl, rfl⟩
  case round =>
    rcases hrel with ⟨rfl, rfl, rfl, hw⟩ | ⟨n, R', xs, ws, ps, aw, ap, kv, K, rfl, hX⟩
    · subst hw
      have d1 : decide (0 < R.len + 1) = true := decide_eq_true (by omega)
      have d1' : decide ((0 : Int) < (R.len : Int) + 1) = true := decide_eq_true (by omega)
      have d2 : ((0 : Int) < (R.len : Int) + 1) := by omega
      have hb1 := bel_one wr (NodeC (.slice (some ⟨yb, yo, none⟩) 2 cy) (.slice Aq ps0.length cq) b0 (.slice A0 K0.len k0c))
      have hbx : BX wr.heap.size (.slice (some ⟨yb, yo, none⟩) 2 cy) (.slice Aq ps0.length cq) b0 (.slice A0 K0.len k0c) (wr.alloc (NodeC (.slice (some ⟨yb, yo, none⟩) 2 cy) (.slice Aq ps0.length cq) b0 (.slice A0 K0.len k0c))) := ⟨heap_new wr _⟩
      have HAX := hide (HAP.out _ hb1)
      have HB1 := hide hb1
      have HBX := hide hbx
      clear hb1 hbx HPG
      go_wp2_with fail
      refine HAX.out.mono ?_
      generalize wr.alloc (NodeC (.slice (some ⟨yb, yo, none⟩) 2 cy) (.slice Aq ps0.length cq) b0 (.slice A0 K0.len k0c)) = w1 at *
      rintro e x1 ⟨rfl, hb2⟩
      have hbb := below_lo HB1.out hb2 HB1.out.size
      have HB2 := hide hbb
      have hbx2 := HBX.out.below hb2
      have n0 := cell_heap (j := 0) hbx2.h rfl
      have hyx := HYC.out x1 hbb
      have HSR := hide (show ∀ (j : Nat) (u : Value), ([.string gn] : List Value)[j]? = some u → x1.cell? ((⟨yb, yo + 1, none⟩ : Addr).add j) = some u from fun j u hj => by
        match j, hj with
        | 0, hj => cases hj; exact hyx
        | j + 1, hj => cases hj)
      clear hb2 hbb hbx2 hyx HAX HAP
      go_wp2_with (at_builtin; go_must (refine wpList_append_own_at _ rfl (.tmp 19) (.tmp 22) 41 rfl wr.heap.size 9 si _ 1 16 Try.underlying41 sz0 sz ss sb rfl (by decide) (.slice none 0 0) 0 [] rfl ⟨rfl, .inl ⟨rfl, rfl⟩⟩ ⟨yb, yo + 1, none⟩ 1 _ [.string gn] rfl rfl HSR.out ?ones ?c63 ?cby ?cbase ?_))
      case ones => simp [Value.oneCell']
      case c63 => unfold maxLen; omega
      case cby => omega
      case cbase => exact HB2.out.size
      intro v' w4 hown hgr _ _
      have hb4 := below_grown HB2.out hgr (fun q e2 => by cases e2) HB2.out.size
      have HF := hide (show IT w0 wr w4 (.slice none 0 0) v' gn 0 R R xs0 [] (fun _ => []) (fun _ => []) (fun _ => .slice none 0 0) (fun _ => .slice none 0 0) (fun _ => .slice none 0 0) (fun _ => .nil) D from ⟨hb4, CM.start (fun q hq => ⟨(HD.out q hq).1, Nat.lt_of_lt_of_le (HD.out q hq).2 hb4.size⟩), fun q e2 => (by cases e2), fun e he => absurd he (Nat.not_lt_zero e), hown, HRF.out, by simp, rfl, HB.out.1, HB.out.2.1, HB.out.2.2⟩)
      clear hown hgr hb4 n0
      go_wp2_with fail
      go_roundw
      case rel => exact .inr ⟨0, R, _, _, _, _, _, _, _, by go_num, HF.out⟩
      case measure => simp [intOf]
    · have HX := hide hX
      obtain ⟨Av, cv, hva⟩ := own_slice hX.c.own
      subst hva
      obtain ⟨nb1, nc1, hvn, hnb1, hnb2⟩ := own_some hX.nm (Nat.le_refl _)
      subst hvn
      clear hX
      cases R' with
      | nil =>
        have hi : n = R.len := by have := HX.out.len; simpa [Fo.len] using this
        have d1 : decide (n + 1 < R.len + 1) = false := decide_eq_false (by omega)
        have d1' : decide ((n : Int) + 1 < (R.len : Int) + 1) = false := decide_eq_false (by omega)
        have HEQ := hide (show foN ws ps K n = R from by have := HX.out.eq; rwa [Fo.app_nil] at this)
        have hnl : n ≤ 1099511627776 := by omega
        have hn1 : 1 ≤ n := by omega
        have HNL := hide (And.intro hnl hn1)
        have d3 : decide (n < R.len) = false := decide_eq_false (by omega)
        have d3' : decide ((n : Int) < (R.len : Int)) = false := decide_eq_false (by omega)
        have nc := own_cells HX.out.nm 0 (.string gn) rfl
        rw [Addr.add_lit, Nat.add_zero] at nc
        obtain ⟨g, cg, hva, hg1, hg2⟩ := own_some HX.out.c.own hn1
        simp only [Value.slice.injEq, true_and] at hva
        obtain ⟨rfl, rfl⟩ := hva
        have hlk := run_lookup wr gm gn (.slice (some ⟨ab, ao, none⟩) 1 gc) false (HM.out.below HX.out.bl)
        have HPS := hide (HPG.out wr HX.out.bl g cv n xs ws ps aw ap kv K HX.out.c.cn hnl (HX.out.ov g rfl) HX.out.ok HEQ.out)
        clear hi hnl hn1 hg1 hg2 HPG
        go_wp2_with fail
        go_loopw [5, 36] (fun va j wx => (j = .int .i64 0 ∧ va = .slice (some ⟨g, 0, none⟩) n cv ∧ wx = wr) ∨ (j = .int .i64 1 ∧ va = .slice (some ⟨g, 0, none⟩) n cv ∧ Below w0.heap.size wr wx ∧ ∃ xs kv, CN w0 wx g cv n xs ws ps aw ap kv (fun e => passL (K e) G) D)) (fun _ j _ => 1 - (intOf j).toNat)
        case atStart => exact .inl ⟨rfl, rfl, rfl⟩
        case round =>
          rcases hrel with ⟨rfl, rfl, hw⟩ | ⟨rfl, rfl, hb, xs2, kv2, hc⟩
          · subst hw
            go_wp2_with fail
            refine HPS.out.mono ?_
            rintro e x2 ⟨hb2, rfl, xs2, kv2, hc2⟩
            have HF := hide hc2
            have HBF := hide hb2
            clear hc2 hb2
            go_wp2_with fail
            go_roundw
            case rel => exact .inr ⟨by go_num, rfl, HBF.out, _, _, HF.out⟩
            case measure => simp [intOf]
          · have HBF := hide (below_two (HX.out.bl.mono HW0.out) hb)
            have HF := hide hc
            clear hb hc
            go_wp2_with fail
            go_ret
            exact ⟨HBF.out, _, _, _, _, _, _, _, _, _, _, rfl, HF.out, HEQ.out⟩
      | cons wsn psn blk Kn R2 =>
        have hlen : n + (R2.len + 1) = R.len := HX.out.len
        have d1 : decide (n + 1 < R.len + 1) = true := decide_eq_true (by omega)
        have d1' : decide ((n : Int) + 1 < (R.len : Int) + 1) = true := decide_eq_true (by omega)
        have d3 : decide (n < R.len) = true := decide_eq_true (by omega)
        have d3' : decide ((n : Int) < (R.len : Int)) = true := decide_eq_true (by omega)
        have d2 : ((n : Int) + 1 < (R.len : Int) + 1) := by omega
        have d4 : ((n : Int) < (R.len : Int)) := by omega
        have hbk := HX.out.bk
        rw [blks, Bool.and_eq_true, Bool.and_eq_true, Bool.and_eq_true] at hbk
        obtain ⟨⟨hblk, hapn, hnaK⟩, hbkR⟩ := hbk
        subst hblk
        have hapf : applB wsn = false := by simpa using hapn
        obtain ⟨vw, vp, Ak2, ck2, ys, g0, g1, g2, g3, hvw, hvp, hks, hkA, hkF, hRF⟩ := drop_fo HX.out.fo
        have c0 := HCE.out wr HX.out.bl _ _ g0
        have c1 := HCE.out wr HX.out.bl _ _ g1
        have c2 := HCE.out wr HX.out.bl _ _ g2
        have c3 := HCE.out wr HX.out.bl _ _ g3
        rw [← Nat.add_assoc] at c1 c2 c3
        have HVW := hide hvw
        have HVP := hide hvp
        obtain ⟨Aw2, cw2, rfl, hws, hwB⟩ := hvw
        obtain ⟨Ap2, cp2, rfl, hps, hpB⟩ := hvp
        have hszR : szF (.cons wsn psn true Kn R2) = wsn.length + psn.length + 1 + szF Kn + szF R2 := rfl
        have hsz := HX.out.sz
        have hszb : wsn.length + psn.length + 1 + szF Kn + szF R2 ≤ 1099511627776 := by omega
        have hg := HX.out.gd
        have HGR := hide hg.2.2.2
        have HRF2 := hide hRF
        have HLEN := hide hlen
        have HBR := hide (And.intro hbkR (show szF R2 ≤ 1099511627776 from by omega))
        have hkl : Kn.len ≤ 1099511627776 := by have h1 := len_sz Kn; omega
        have hnl : n ≤ 1099511627776 := by omega
        have hb1 := below_lo HX.out.bl (bel_one wr (NodeC (.slice Aw2 wsn.length cw2) (.slice Ap2 psn.length cp2) true (.slice Ak2 Kn.len ck2))) HX.out.bl.size
        have HB1 := hide hb1
        have HBX := hide (show BX wr.heap.size (.slice Aw2 wsn.length cw2) (.slice Ap2 psn.length cp2) true (.slice Ak2 Kn.len ck2) (wr.alloc (NodeC (.slice Aw2 wsn.length cw2) (.slice Ap2 psn.length cp2) true (.slice Ak2 Kn.len ck2))) from ⟨heap_new wr _⟩)
        have HW1 := hide (bel_one wr (NodeC (.slice Aw2 wsn.length cw2) (.slice Ap2 psn.length cp2) true (.slice Ak2 Kn.len ck2)))
        have HSZ := hide (show (wr.alloc (NodeC (.slice Aw2 wsn.length cw2) (.slice Ap2 psn.length cp2) true (.slice Ak2 Kn.len ck2))).heap.size = wr.heap.size + 1 ∧ w.heap.size ≤ wr.heap.size from ⟨by simp, HX.out.bl.size⟩)
        have HAX := hide (applies_any wsn true Aw2 cw2 (.slice Ap2 psn.length cp2) (.slice Ak2 Kn.len ck2) (wr.alloc (NodeC (.slice Aw2 wsn.length cw2) (.slice Ap2 psn.length cp2) true (.slice Ak2 Kn.len ck2))) hg.1 (by omega) (hws.below hb1))
        rw [hapf] at HAX
        have HREC := hide (fun (x : World) (hx : Below w.heap.size w x) => inherited_any w0 (.map (some gm)) Kn.nodes Kn rfl Ak2 ck2 ys D x (Nat.le_trans HW0.out hx.size) (hks.below hx) (hkF.keep (fun q hq => hx.block q (HD.out q hq).2)) (fun q hq => ⟨(HD.out q hq).1, Nat.lt_of_lt_of_le (HD.out q hq).2 hx.size⟩) (fun a ha => Nat.lt_of_lt_of_le (HD.out _ (hkA a ha)).2 hx.size) (by omega) hg.2.2.1 hnaK)
        clear g0 g1 g2 g3 hks hkA hkF hRF hws hwB hps hpB hszR hszb hsz hg hlen hb1 hapn hnaK hbkR hapf HPG HAP
        go_wp2_with fail
        refine HAX.out.mono ?_
        generalize wr.alloc (NodeC (.slice Aw2 wsn.length cw2) (.slice Ap2 psn.length cp2) true (.slice Ak2 Kn.len ck2)) = w1 at *
        rintro e x1 ⟨rfl, hb2⟩
        have HB2 := hide (below_lo HB1.out hb2 HB1.out.size)
        have HW2 := hide (below_wide HW1.out hb2)
        have HBX2 := hide (HBX.out.below hb2)
        have n3 := cell_heap (j := 3) HBX2.out.h rfl
        have HS2 := hide (show wr.heap.size + 1 ≤ x1.heap.size from by have h1 := HSZ.out.1; have h2 := hb2.size; omega)
        have HRX := hide (HREC.out x1 HB2.out)
        clear hb2 HREC HAX
        go_wp2_with fail
        refine HRX.out.mono ?_
        rintro e x2 ⟨hb3, vk, ks2, BK, rfl, hlk, hob, hbkk⟩
        obtain ⟨Bk, dk, rfl⟩ := own_slice hlk.own
        have HB3 := hide (below_lo HB2.out hb3 HB2.out.size)
        have HW3 := hide (below_wide HW2.out hb3)
        have HBX3 := hide (HBX2.out.below hb3)
        have HLK := hide hlk
        have HOB := hide hob
        have HBK := hide hbkk
        have HS3 := hide (show x1.heap.size ≤ x2.heap.size from hb3.size)
        have m0 := cell_heap (j := 0) HBX3.out.h rfl
        have m1 := cell_heap (j := 1) HBX3.out.h rfl
        have m2 := cell_heap (j := 2) HBX3.out.h rfl
        have m3 := cell_heap (j := 3) HBX3.out.h rfl
        have mf := frozen_heap (j := 3) HBX3.out.h
        have HOX := hide (only_set (only_refl wr.heap.size x2) 3 (.slice Bk Kn.len dk))
        have hst := heap_set (j := 3) (u := .slice Bk Kn.len dk) HBX3.out.h
        have q0 := cell_heap (j := 0) hst rfl
        have q1 := cell_heap (j := 1) hst rfl
        have q2 := cell_heap (j := 2) hst rfl
        have q3 := cell_heap (j := 3) hst rfl
        have HB4 := hide (HB3.out.setCell (p := ⟨wr.heap.size, 3, none⟩) HSZ.out.2 (.slice Bk Kn.len dk))
        have HW4 := hide (HW3.out.setCell (p := ⟨wr.heap.size, 3, none⟩) (Nat.le_refl _) (.slice Bk Kn.len dk))
        have HK4 := hide (HLK.out.kept2 HOX.out (fun b e => by
          injection e with e
          subst e
          have h1 := HS2.out
          refine ⟨fun e2 => by have := HOB.out _ e2; omega, fun e2 => ?_⟩
          have h3 := HSZ.out.2
          rcases HBK.out _ e2 with h2 | h2
          · have := (HD.out _ h2).2; omega
          · omega))
        have HSX := hide (show (x2.setCell ⟨wr.heap.size, 3, none⟩ (.slice Bk Kn.len dk)).heap.size = x2.heap.size from by simp [World.setCell])
        have HCX := hide (HX.out.c.below HW4.out)
        clear hb3 hlk hob hbkk n3 HRX hst
        go_wp2_with (at_builtin; go_must (refine wpList_append_own_at _ rfl (.tmp 29) (.tmp 31) 36 rfl w0.heap.size 44 ni _ 4 80 Try.underlying36 nz0 nz ns nb rfl (by decide) _ _ _ rfl (HCX.out.own.alloc _) ⟨x2.heap.size, 0, none⟩ 1 1 [.slice Aw2 wsn.length cw2, .slice Ap2 psn.length cp2, .bool true, .slice Bk Kn.len dk] rfl rfl ?rw ?ones ?c63 ?cby ?cbase ?_))
        case rw =>
          have := row_at (heap_new (x2.setCell ⟨wr.heap.size, 3, none⟩ (.slice Bk Kn.len dk)) (NodeC (.slice Aw2 wsn.length cw2) (.slice Ap2 psn.length cp2) true (.slice Bk Kn.len dk)))
          rw [HSX.out] at this
          exact this
        case ones => simp [Value.oneCell']
        case c63 => unfold maxLen; omega
        case cby => omega
        case cbase => have h1 := HW0.out; have h2 := HB4.out.size; rw [World.size_alloc]; omega
        intro v' w4 hown hgr _ hk2
        generalize hxx : x2.setCell ⟨wr.heap.size, 3, none⟩ (.slice Bk Kn.len dk) = x3 at *
        have hpush := HX.out.c.push HW4.out (HVW.out.keep (fun q hq => HB4.out.block q (HD.out q hq).2)) (HVP.out.keep (fun q hq => HB4.out.block q (HD.out q hq).2)) HK4.out (fun q hq => by have h1 := HOB.out q hq; have h2 := HS2.out; omega) (fun q hq => by
          rcases HBK.out q hq with h | h
          · exact .inl h
          · exact .inr (by have h2 := HS2.out; omega)) hown hgr (by
          rcases hk2 with h | h
          · exact .inl h
          · exact .inr (by rw [h, HSX.out]))
        have hb5 := below_lo HB4.out (bel_one x3 (NodeC (.slice Aw2 wsn.length cw2) (.slice Ap2 psn.length cp2) true (.slice Bk Kn.len dk))) HB4.out.size
        have hg6 := World.grownBy_alloc x3 (NodeC (.slice Aw2 wsn.length cw2) (.slice Ap2 psn.length cp2) true (.slice Bk Kn.len dk)) none
        have HF := hide (show IT w0 w w4 v' (.slice (some ⟨nb1, 0, none⟩) 1 nc1) gn (n + 1) R R2 xs0 _ _ _ _ _ _ _ D from ⟨hb5.grown hgr hb5.size (fun g e => HX.out.ov g e), hpush, fun q e => by
            rcases hk2 with h | h
            · exact HX.out.ov q (by rw [← h]; exact e)
            · rw [h] at e
              injection e with e
              have h1 := HB3.out.size
              omega, fun e he q hq => by
            by_cases hen : e = n
            · rw [if_pos hen] at hq
              have h1 := HOB.out q hq
              have h2 := HS2.out
              have h3 := HSZ.out.2
              omega
            · rw [if_neg hen] at hq
              exact HX.out.ok e (by omega) q hq, by
            have hnm := (own_belw HX.out.nm HW4.out).alloc (NodeC (.slice Aw2 wsn.length cw2) (.slice Ap2 psn.length cp2) true (.slice Bk Kn.len dk))
            exact own_kept hnm hgr (fun q e2 => own_types (HCX.out.own.alloc (NodeC (.slice Aw2 wsn.length cw2) (.slice Ap2 psn.length cp2) true (.slice Bk Kn.len dk))) hnm (by decide) q e2), HRF2.out, by have := HLEN.out; omega, by
            rw [foN, foN_upd n n (Nat.le_refl _)]
            simp only [if_pos rfl]
            rw [Fo.app_assoc]
            exact HX.out.eq, HBR.out.1, HGR.out, HBR.out.2⟩)
        clear hown hgr hk2 hpush hb5 hg6 hxx
        go_wp2_with fail
        go_roundw
        case rel => exact .inr ⟨n + 1, R2, _, _, _, _, _, _, _, by go_num, HF.out⟩
        case measure => have := HLEN.out; simp [intOf]; omega
end Go.Proofs.Ytihmmmodimionaa.Tr
