/- What the claim leans on, part 11 of 16: YB. -/
import Derived.Test.YtihmmmodimionaaWr01
import Derived.Test.YtihmmmodimionaaWr02
import Derived.Test.YtihmmmodimionaaWr03
import Derived.Test.YtihmmmodimionaaWr04
import Derived.Test.YtihmmmodimionaaWr05
import Derived.Test.YtihmmmodimionaaWr06
import Derived.Test.YtihmmmodimionaaWr07
import Derived.Test.YtihmmmodimionaaWr08
import Derived.Test.YtihmmmodimionaaWr09
import Derived.Test.YtihmmmodimionaaWr10
/- good, walked: rows as they come in are made good. -/
namespace Go.Proofs.Ytihmmmodimionaa.Tr
open Go.RowKit Go.Proofs.Ytihmmmodimionaa Go.Proofs.Ytihmmmodimionaa.Lx

/-- rows as they come in, in memory -/
def RiV (w : World) (B : Nat → Prop) : List RowI → List Value → Prop
  | [], xs => xs = []
  | r :: rs, xs => ∃ vw A n c xs', xs = .int .i64 r.deep :: vw :: .slice A n c :: .bool r.op :: xs' ∧ ((∃ Aw cw, vw = .slice Aw r.ws.length cw) ∧ (r.ws.length ≠ 0 → StrV w B vw r.ws)) ∧ RiV w B rs xs'
theorem RiV.at {w : World} {B : Nat → Prop} : ∀ {rs : List RowI} {xs : List Value} {i : Nat} {r : RowI}, RiV w B rs xs → rs[i]? = some r → ∃ vw A n c, xs[i * 4]? = some (.int .i64 r.deep) ∧ xs[i * 4 + 1]? = some vw ∧ xs[i * 4 + 2]? = some (.slice A n c) ∧ xs[i * 4 + 3]? = some (.bool r.op) ∧ (∃ Aw cw, vw = .slice Aw r.ws.length cw) ∧ (r.ws.length ≠ 0 → StrV w B vw r.ws)
  | [], xs, i, r, _, h => by simp at h
  | q :: rs, xs, 0, r, hv, h => by
    obtain ⟨vw, A, n, c, xs', e, h1, h2⟩ := hv
    obtain rfl : q = r := by simpa using h
    exact ⟨vw, A, n, c, by rw [e]; rfl, by rw [e]; rfl, by rw [e]; rfl, by rw [e]; rfl, h1⟩
  | q :: rs, xs, i + 1, r, hv, h => by
    obtain ⟨vw, A, n, c, xs', e, h1, h2⟩ := hv
    obtain ⟨vw', A', n', c', g0, g1, g2, g3, g4⟩ := RiV.at h2 (by simpa using h)
    refine ⟨vw', A', n', c', ?_, ?_, ?_, ?_, g4⟩
    · rw [e, show (i + 1) * 4 = i * 4 + 1 + 1 + 1 + 1 by omega]; exact g0
    · rw [e, show (i + 1) * 4 + 1 = i * 4 + 1 + 1 + 1 + 1 + 1 by omega]; exact g1
    · rw [e, show (i + 1) * 4 + 2 = i * 4 + 2 + 1 + 1 + 1 + 1 by omega]; exact g2
    · rw [e, show (i + 1) * 4 + 3 = i * 4 + 3 + 1 + 1 + 1 + 1 by omega]; exact g3
/-- rows in a row of the call's own, their words and places anywhere else -/
structure Rg (w wr : World) (v : Value) (rs : List RowD) (xs : List Value) (D : Nat → Prop) : Prop where
  own : wr.ownsRow w.heap.size 62 4 v rs.length xs
  rw' : RwV wr D rs xs
  hD : ∀ b, D b → b < wr.heap.size ∧ v.ownBlock ≠ some b
theorem rg_nil (w wr : World) (D : Nat → Prop) (h : ∀ b, D b → b < wr.heap.size) : Rg w wr (.slice none 0 0) [] [] D := ⟨⟨rfl, .inl ⟨rfl, rfl⟩⟩, rfl, fun b hb => ⟨h b hb, fun e => by cases e⟩⟩
section
variable {w wr x y : World} {v v' : Value} {rs : List RowD} {xs : List Value} {D : Nat → Prop}
theorem Rg.below (h : Rg w wr v rs xs D) (hb : Below wr.heap.size wr x) : Rg w x v rs xs D :=
  ⟨own_below h.own hb, h.rw'.keep (fun b hq => hb.block b (h.hD b hq).1), fun b hq => ⟨Nat.lt_of_lt_of_le (h.hD b hq).1 hb.size, (h.hD b hq).2⟩⟩
/-- a row behind the rows -/
theorem Rg.add {d : Nat} {ws : List ByteArray} {ps : List Pl} {vw vp : Value} {b : Bool} {B : Nat → Prop} {base : Nat} (h : Rg w x v rs xs D) (hw : StrV x B vw ws) (hBD : ∀ q, B q → D q) (hp : x.ownsRow base 24 2 vp ps.length (posC ps))
    (ho : y.ownsRow w.heap.size 62 4 v' (rs.length + 1) (xs ++ [.int .i64 d, vw, vp, .bool b])) (hg : x.grownBy y v.ownBlock) (hk : v'.ownBlock = v.ownBlock ∨ v'.ownBlock = some x.heap.size) :
    Rg w y v' (rs ++ [⟨d, ws, ps, b⟩]) (xs ++ [.int .i64 d, vw, vp, .bool b]) (fun q => D q ∨ vp.ownBlock = some q) := by
  have hne : ∀ q, vp.ownBlock = some q → v.ownBlock ≠ some q := fun q e => own_types hp h.own (by decide) q e
  have hlt : ∀ q, (D q ∨ vp.ownBlock = some q) → q < x.heap.size ∧ v.ownBlock ≠ some q := by
    rintro q (hq | hq)
    · exact h.hD q hq
    · exact ⟨(hp.lt q hq).2, hne q hq⟩
  have hkeep : ∀ q, (D q ∨ vp.ownBlock = some q) → y.heap[q]? = x.heap[q]? := fun q hq => hg.block q (hlt q hq).1 (fun e => (hlt q hq).2 e.symm)
  obtain ⟨Ap, cp, rfl⟩ := own_slice hp
  refine ⟨by rw [List.length_append]; exact ho, RwV.app ((h.rw'.keep (fun q hq => hkeep q (.inl hq))).mono (fun q hq => .inl hq)) ⟨_, _, [], rfl, (hw.keep (fun q hq => hkeep q (.inl (hBD q hq)))).mono (fun q hq => .inl (hBD q hq)), ⟨Ap, cp, rfl, src_keep (own_src hp) (fun a ha => hkeep _ (.inr (by rw [ha]; rfl))), fun a ha => .inr (by rw [ha]; rfl)⟩, rfl⟩, fun q hq => ⟨Nat.lt_of_lt_of_le (hlt q hq).1 hg.size, ?_⟩⟩
  rcases hk with e | e
  · rw [e]; exact (hlt q hq).2
  · rw [e]
    intro e'
    injection e' with e'
    have := (hlt q hq).1
    omega
end
def GoodOut (L : List RowI) (B : Nat → Prop) (w : World) (e : Ending) (w' : World) : Prop :=
  Below w.heap.size w w' ∧ ∃ v ys D, e = .returned v ∧ Rg w w' v (goodR 0 0 L) ys D ∧ ∀ q, B q → D q
structure GL (w wr : World) (B : Nat → Prop) (L : List RowI) (va : Value) (d i : Nat) (acc : List RowD) (ys : List Value) (D : Nat → Prop) : Prop where
  bl : Below w.heap.size w wr
  rg : Rg w wr va acc ys D
  bd : ∀ q, B q → D q
  eq : acc ++ goodR i d (L.drop i) = goodR 0 0 L
  d30 : d ≤ 30
  il : i ≤ L.length
  len : acc.length ≤ i
/-- in the loop over a row's places -/
structure GI (wr wx : World) (rb : Nat) (d : Nat) (vw : Value) (op : Bool) (i k : Nat) (Ap : Option Addr) (cp : Nat) : Prop where
  bl : Below wr.heap.size wr wx
  rb : wx.heap[rb]? = some (RowC d vw (.slice Ap k cp) op)
  op : wx.ownsRow wr.heap.size 24 2 (.slice Ap k cp) k (posC (posG i k))
set_option maxHeartbeats 8000000 in
set_option maxRecDepth 100000 in
theorem good_any (L : List RowI) (A : Option Addr) (c : Nat) (xs : List Value) (B : Nat → Prop) (w : World) (hs : Src w A L.length c 4 xs) (hv : RiV w B L xs) (hB : ∀ b, B b → b < w.heap.size) (hl : L.length ≤ 1099511627776) :
    Calls Try.prog 22 #[.slice A L.length c] w (GoodOut L B w) := by
  obtain ⟨ri, rz0, rz, rss, rb⟩ := info_parts infoR
  obtain ⟨qi, qz0, qz, qs, qb⟩ := info_parts infoP
  have HS := hide hs
  have HV := hide hv
  have HB := hide hB
  have HG0 := hide (show GL w w B L (.slice none 0 0) 0 0 [] [] B from ⟨Below.refl _ _, rg_nil w w B hB, fun _ h => h, by simp, by omega, Nat.zero_le _, Nat.le_refl _⟩)
  clear hs hv hB
  go_enter Try.func22, Try.ntmps22
  go_wp2_with fail
  go_loopw [3, 4, 5] (fun va q j wr => ∃ (d i : Nat) (acc : List RowD) (ys : List Value) (D : Nat → Prop), q = .int .i64 d ∧ j = .int .i64 i ∧ GL w wr B L va d i acc ys D) (fun _ _ j _ => L.length - (intOf j).toNat)
  case atStart => exact ⟨0, 0, [], [], B, rfl, rfl, HG0.out⟩
  case round =>
    clear HG0
    obtain ⟨d, i, acc, ys, D, rfl, rfl, hX⟩ := hrel
    obtain ⟨wa, rfl⟩ : ∃ x, x = wr := ⟨wr, rfl⟩
    obtain ⟨Av, cv, rfl⟩ := own_slice hX.rg.own
    have HX := hide hX
    have hil := hX.il
    have hd30 := hX.d30
    have hal := hX.len
    clear hX
    rcases Nat.lt_or_ge i L.length with hlt | hge
    · have d1 : decide (i < L.length) = true := decide_eq_true hlt
      have d1' : decide ((i : Int) < (L.length : Int)) = true := decide_eq_true (by omega)
      have d2 : ((i : Int) < (L.length : Int)) := by omega
      obtain ⟨r, hr⟩ : ∃ r, L[i]? = some r := ⟨L[i], List.getElem?_eq_getElem hlt⟩
      have hdrop : L.drop i = r :: L.drop (i + 1) := by rw [List.drop_eq_getElem_cons hlt]; congr 1; rw [List.getElem?_eq_getElem hlt] at hr; injection hr
      rcases Nat.lt_or_ge i 120 with h120 | h120
      · have e1 : decide (i < 120) = true := decide_eq_true h120
        have e1' : decide ((i : Int) < 120) = true := decide_eq_true (by omega)
        obtain ⟨vw, A1, k1, q1, g0, g1, g2, g3, hvw⟩ := HV.out.at hr
        obtain ⟨ab, ao, rfl⟩ := src_spot HS.out (by omega) (by decide)
        have hsc := src_cells (HS.out.below HX.out.bl)
        have c0 := hsc _ _ g0
        have c1 := hsc _ _ g1
        have c2 := hsc _ _ g2
        have c3 := hsc _ _ g3
        rw [← Nat.add_assoc] at c1 c2 c3
        obtain ⟨⟨Aw, cw, rfl⟩, hst⟩ := hvw
        have hws' : r.ws.length ≠ 0 → StrV wa D (.slice Aw r.ws.length cw) r.ws := fun h => (StrV.keep (hst h) (fun b hb => HX.out.bl.block b (HB.out b hb))).mono HX.out.bd
        have HWS := hide hws'
        have HDR := hide hdrop
        have HLT := hide hlt
        have HGE := hide (show goodR i d (r :: L.drop (i + 1)) = if r.ws.length = 0 ∨ 8 < r.ws.length then goodR (i + 1) d (L.drop (i + 1)) else ⟨dG r.deep d, r.ws, posG i r.ws.length, r.op⟩ :: goodR (i + 1) (nG r.op (dG r.deep d)) (L.drop (i + 1)) from by rw [goodR, if_neg (by omega)])
        have HRB := hide (heap_new wa (RowC r.deep (.slice Aw r.ws.length cw) (.slice A1 k1 q1) r.op))
        clear hst hws' hsc g0 g1 g2 g3 hr hdrop hlt
        by_cases hsk : r.ws.length = 0 ∨ 8 < r.ws.length
        · have HGN := hide (show GL w (wa.alloc (RowC r.deep (.slice Aw r.ws.length cw) (.slice A1 k1 q1) r.op)) B L (.slice Av acc.length cv) d (i + 1) acc ys D from ⟨HX.out.bl.alloc HX.out.bl.size _, HX.out.rg.below (bel_one wa _), HX.out.bd, by rw [← HX.out.eq, HDR.out, HGE.out, if_pos hsk], hd30, HLT.out, by omega⟩)
          by_cases h0 : r.ws.length = 0
          · have b1 : (r.ws.length == 0) = true := by simpa using h0
            have b1' : ((r.ws.length : Int) == 0) = true := by simp [h0]
            clear hsk h0
            go_wp2_with fail
            go_roundw
            case rel => exact ⟨d, i + 1, acc, ys, D, rfl, by go_num, HGN.out⟩
            case measure => have := HLT.out; simp [intOf]; omega
          · have b1 : (r.ws.length == 0) = false := by simpa using h0
            have b1' : ((r.ws.length : Int) == 0) = false := by simp; exact fun h => h0 (by simp [h])
            have h8 : 8 < r.ws.length := hsk.resolve_left h0
            have b2 : decide (8 < r.ws.length) = true := decide_eq_true h8
            have b2' : decide ((8 : Int) < (r.ws.length : Int)) = true := decide_eq_true (by omega)
            clear hsk h0 h8
            go_wp2_with fail
            go_roundw
            case rel => exact ⟨d, i + 1, acc, ys, D, rfl, by go_num, HGN.out⟩
            case measure => have := HLT.out; simp [intOf]; omega
        · have h0 : ¬ r.ws.length = 0 := fun h => hsk (.inl h)
          have h8 : r.ws.length ≤ 8 := by omega
          have b1 : (r.ws.length == 0) = false := by simpa using h0
          have b1' : ((r.ws.length : Int) == 0) = false := by simp; exact fun h => h0 (by simp [h])
          have b2 : decide (8 < r.ws.length) = false := decide_eq_false (by omega)
          have b2' : decide ((8 : Int) < (r.ws.length : Int)) = false := decide_eq_false (by omega)
          have HSK := hide hsk
          have n0 := cell_heap (j := 0) HRB.out rfl
          have n1 := cell_heap (j := 1) HRB.out rfl
          have y0 := frozen_heap (j := 0) HRB.out
          have m2 := fun u => cell_heap (j := 2) (heap_set (j := 0) (u := u) HRB.out) rfl
          have y2 := fun u => frozen_heap (j := 2) (heap_set (j := 0) (u := u) HRB.out)
          clear hsk h0
          go_wp2_with fail
          rw [← dG_int]
          have hde := dG_le r.deep d
          have HEE := hide (show dG r.deep d = dG r.deep d from rfl)
          generalize he : dG r.deep d = e at *
          have HE := hide he
          have HGI0 := hide (show GI wa (wa.alloc (RowC e (.slice Aw r.ws.length cw) (.slice none 0 0) r.op)) wa.heap.size e (.slice Aw r.ws.length cw) r.op i 0 none 0 from ⟨bel_one wa _, heap_new wa _, ⟨rfl, .inl ⟨rfl, rfl⟩⟩⟩)
          have HVAB := hide (fun g e => (HX.out.rg.own.lt g e).2)
          clear he n0 n1 y0 m2 y2 c0 c1 c2 c3 HRB HEE b1 b1' b2 b2'
          go_loopw [7] (fun j wx => ∃ (k : Nat) (Ap : Option Addr) (cp : Nat), j = .int .i64 k ∧ k ≤ r.ws.length ∧ GI wa wx wa.heap.size e (.slice Aw r.ws.length cw) r.op i k Ap cp) (fun j _ => r.ws.length - (intOf j).toNat)
          case atStart => exact ⟨0, _, _, rfl, Nat.zero_le _, HGI0.out⟩
          case round =>
            clear HGI0
            obtain ⟨k, Ap, cp, rfl, hk, hI⟩ := hrel
            have HI := hide hI
            have n0 := cell_heap (j := 0) hI.rb rfl
            have n1 := cell_heap (j := 1) hI.rb rfl
            have n2 := cell_heap (j := 2) hI.rb rfl
            have n3 := cell_heap (j := 3) hI.rb rfl
            clear hI
            rcases Nat.lt_or_ge k r.ws.length with hkl | hkg
            · have z1 : decide (k < r.ws.length) = true := decide_eq_true hkl
              have z1' : decide ((k : Int) < (r.ws.length : Int)) = true := decide_eq_true (by omega)
              have HKL := hide hkl
              have hkb : k < 9 := by omega
              clear hk hkl
              go_wp2_with (at_builtin; go_must (refine wpList_append_own_at _ rfl (.tmp 47) (.tmp 53) 42 rfl wa.heap.size 24 qi _ 2 16 Try.underlying42 qz0 qz qs qb rfl (by decide) _ k _ rfl (HI.out.op.alloc _) ⟨wr.heap.size, 0, none⟩ 1 1 [.int .i64 ((i : Int) + 1), .int .i64 ((k : Int) + 1)] rfl rfl (row_at (heap_new wr (PosC ((i : Int) + 1) ((k : Int) + 1)))) ?ones ?c63 ?cby ?cbase ?_))
              case ones => simp [Value.oneCell']
              case c63 => unfold maxLen; omega
              case cby => omega
              case cbase => rw [World.size_alloc]; exact Nat.le_trans HI.out.bl.size (Nat.le_succ _)
              intro v' y hown hgr _ hk'
              obtain ⟨A', c', rfl⟩ := own_slice hown
              have hob := (HI.out.op.alloc (PosC ((i : Int) + 1) ((k : Int) + 1)))
              have hrb := heap_grown (heap_old (p := PosC ((i : Int) + 1) ((k : Int) + 1)) HI.out.rb) hgr (own_ne_row hob (heap_old HI.out.rb) (by decide))
              have hby : Below wa.heap.size wa y := (HI.out.bl.alloc HI.out.bl.size (PosC ((i : Int) + 1) ((k : Int) + 1))).grown hgr (by rw [World.size_alloc]; exact Nat.le_trans HI.out.bl.size (Nat.le_succ _)) (fun g e => (hob.lt g e).1)
              have HGN := hide (show GI wa (y.setCell ⟨wa.heap.size, 2, none⟩ (.slice A' (k + 1) c')) wa.heap.size e (.slice Aw r.ws.length cw) r.op i (k + 1) A' c' from ⟨hby.setCell (p := ⟨wa.heap.size, 2, none⟩) (Nat.le_refl _) _, heap_set (j := 2) hrb, own_kept (by rw [posG_next, posC_app]; exact hown) (only_set (only_refl wa.heap.size y) 2 _) (fun g e => by cases e; exact own_ne_row hown hrb (by decide))⟩)
              have m2 := cell_heap (j := 2) hrb rfl
              have f2 := frozen_heap (j := 2) hrb
              clear hown hgr hk' hob hrb hby n0 n1 n2 n3
              go_wp2_with fail
              go_roundw
              case rel => exact ⟨k + 1, _, _, by go_num, HKL.out, HGN.out⟩
              case measure => have := HKL.out; simp [intOf]; omega
            · have z1 : decide (k < r.ws.length) = false := decide_eq_false (by omega)
              have z1' : decide ((k : Int) < (r.ws.length : Int)) = false := decide_eq_false (by omega)
              obtain rfl : k = r.ws.length := by omega
              have HOWN := hide ((HX.out.rg.below HI.out.bl).own.alloc (RowC e (.slice Aw r.ws.length cw) (.slice Ap r.ws.length cp) r.op))
              clear hk hkg
              go_wp2_with (at_builtin; go_must (refine wpList_append_own_at _ rfl (.tmp 56) (.tmp 58) 49 rfl w.heap.size 62 ri _ 4 64 Try.underlying49 rz0 rz rss rb rfl (by decide) _ _ _ rfl HOWN.out ⟨wr.heap.size, 0, none⟩ 1 1 [.int .i64 e, .slice Aw r.ws.length cw, .slice Ap r.ws.length cp, .bool r.op] rfl rfl (row_at (heap_new wr (RowC e (.slice Aw r.ws.length cw) (.slice Ap r.ws.length cp) r.op))) ?ones ?c63 ?cby ?cbase ?_))
              case ones => simp [Value.oneCell']
              case c63 => unfold maxLen; omega
              case cby => omega
              case cbase => rw [World.size_alloc]; exact Nat.le_trans (Nat.le_trans HX.out.bl.size HI.out.bl.size) (Nat.le_succ _)
              intro v8 w8 hown hgr _ hk8
              have hb1 := below_wide HI.out.bl (bel_one wr (RowC e (.slice Aw r.ws.length cw) (.slice Ap r.ws.length cp) r.op))
              have hrg := Rg.add (d := e) (ws := r.ws) (ps := posG i r.ws.length) (b := r.op) (HX.out.rg.below hb1) ((HWS.out (fun h => HSK.out (.inl h))).keep (fun q hq => hb1.block q (HX.out.rg.hD q hq).1)) (fun q hq => hq) (by rw [posG_len]; exact HI.out.op.alloc _) hown hgr (by rw [World.size_alloc]; exact hk8)
              have hne : ∀ q, (Value.slice Av acc.length cv).ownBlock = some q → q < wa.heap.size := HVAB.out
              have hr8 := heap_grown (heap_old (p := RowC e (.slice Aw r.ws.length cw) (.slice Ap r.ws.length cp) r.op) HI.out.rb) hgr (fun h => by have := hne _ h; omega)
              have m0 := cell_heap (j := 0) hr8 rfl
              have m3 := cell_heap (j := 3) hr8 rfl
              have hbl8 : Below w.heap.size w w8 := (below_lo HX.out.bl hb1 HX.out.bl.size).grown hgr (by rw [World.size_alloc]; exact Nat.le_trans (Nat.le_trans HX.out.bl.size HI.out.bl.size) (Nat.le_succ _)) (fun g e => (HX.out.rg.own.lt g e).1)
              have hgl := show ∀ d', d' = nG r.op e → GL w w8 B L v8 d' (i + 1) (acc ++ [⟨e, r.ws, posG i r.ws.length, r.op⟩]) _ _ from fun d' hd' => ⟨hbl8, hrg, fun q hq => .inl (HX.out.bd q hq), by rw [hd', ← HX.out.eq, HDR.out, HGE.out, if_neg HSK.out]; simp, by rw [hd']; exact nG_le (by omega), HLT.out, by simp; omega⟩
              have HGL := hide hgl
              have HQ := hide hbl8
              clear hown hgr hk8 hb1 hrg hne hr8 hbl8 hgl n0 n1 n2 n3 HI HOWN z1 z1' HWS
              have hop := HE.out
              generalize hrop : r.op = op at *
              cases op with
              | true =>
                rcases Nat.lt_or_ge e 30 with h30 | h30
                · have b3 : decide (e < 30) = true := decide_eq_true h30
                  have b3' : decide ((e : Int) < 30) = true := decide_eq_true (by omega)
                  have HN := hide (show e + 1 = nG true e from by rw [nG, if_pos ⟨rfl, h30⟩])
                  clear hop hrop
                  go_wp2_with fail
                  go_roundw
                  case rel => exact ⟨e + 1, i + 1, _, _, _, by go_num, by go_num, HGL.out _ HN.out⟩
                  case measure => have := HLT.out; simp [intOf]; omega
                · have b3 : decide (e < 30) = false := decide_eq_false (by omega)
                  have b3' : decide ((e : Int) < 30) = false := decide_eq_false (by omega)
                  have HN := hide (show e = nG true e from by rw [nG, if_neg (by omega)])
                  clear hop hrop
                  go_wp2_with fail
                  go_roundw
                  case rel => exact ⟨e, i + 1, _, _, _, rfl, by go_num, HGL.out _ HN.out⟩
                  case measure => have := HLT.out; simp [intOf]; omega
              | false =>
                have HN := hide (show e = nG false e from by rw [nG, if_neg (by simp)])
                clear hop hrop
                go_wp2_with fail
                go_roundw
                case rel => exact ⟨e, i + 1, _, _, _, rfl, by go_num, HGL.out _ HN.out⟩
                case measure => have := HLT.out; simp [intOf]; omega
      · have e1 : decide (i < 120) = false := decide_eq_false (by omega)
        have e1' : decide ((i : Int) < 120) = false := decide_eq_false (by omega)
        have HEQ := hide (show acc = goodR 0 0 L from by have := HX.out.eq; rw [hdrop, goodR, if_pos h120] at this; simpa using this)
        clear hdrop hr
        go_wp2_with fail
        go_ret
        exact ⟨HX.out.bl, _, _, _, rfl, by rw [← HEQ.out]; exact HX.out.rg, HX.out.bd⟩
    · have d1 : decide (i < L.length) = false := decide_eq_false (by omega)
      have d1' : decide ((i : Int) < (L.length : Int)) = false := decide_eq_false (by omega)
      have HEQ := hide (show acc = goodR 0 0 L from by have := HX.out.eq; rw [List.drop_eq_nil_of_le hge, goodR] at this; simpa using this)
      clear hge
      go_wp2_with fail
      go_ret
      exact ⟨HX.out.bl, _, _, _, rfl, by rw [← HEQ.out]; exact HX.out.rg, HX.out.bd⟩
end Go.Proofs.Ytihmmmodimionaa.Tr
