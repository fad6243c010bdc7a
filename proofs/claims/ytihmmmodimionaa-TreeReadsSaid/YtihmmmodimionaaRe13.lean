/- What the claim leans on, part 13 of 14: WC WD. -/
import Derived.Test.YtihmmmodimionaaRe01
import Derived.Test.YtihmmmodimionaaRe02
import Derived.Test.YtihmmmodimionaaRe03
import Derived.Test.YtihmmmodimionaaRe04
import Derived.Test.YtihmmmodimionaaRe05
import Derived.Test.YtihmmmodimionaaRe06
import Derived.Test.YtihmmmodimionaaRe07
import Derived.Test.YtihmmmodimionaaRe08
import Derived.Test.YtihmmmodimionaaRe09
import Derived.Test.YtihmmmodimionaaRe10
import Derived.Test.YtihmmmodimionaaRe11
import Derived.Test.YtihmmmodimionaaRe12
/- spoil, walked: a forest's shape is enough. -/
namespace Go.Proofs.Ytihmmmodimionaa.Tr
open Go.RowKit Go.Proofs.Ytihmmmodimionaa Go.Proofs.Ytihmmmodimionaa.Lx

theorem wpL_tame {Pg : Program} {w : World} {ops : Array Oper} {rest : List Oper} {o : Oper} {a : Act} {Q : Exit → Act → World → Prop} (hgd : o.guard = none) (s x : Operand) (t : TypeId)
    (ho : o.op = .call { callee := .builtin .append, args := #[s, x], argTypes := #[t, t] })
    (e : TypeId) (i : TypeInfo) (z : Value) (bytes : Nat) (ht : Pg.underlying t = some (.slice e)) (hi : Pg.info? e = some i) (hz : i.zero = some z)
    (hs1 : i.size = 1) (hby : i.bytes = bytes) (hzs : z.cells.size = 1)
    (v : Value) (n : Nat) (xs : List Value) (hs : a.eval s = v) (hown : w.ownsRow 0 e 1 v n xs)
    (ad : Addr) (c : Nat) (u : Value) (hx : a.eval x = .slice (some ad) 1 c) (hnews : w.cell? ad = some u) (h1 : u.oneCell' = true)
    (h63 : n + 1 ≤ maxLen) (hbytes : (n + 1) * bytes ≤ 140737488355328)
    (h : ∀ g c' w', w'.ownsRow 0 e 1 (.slice (some ⟨g, 0, none⟩) (n + 1) c') (n + 1) (xs ++ [u]) → w.grownBy w' v.ownBlock → (v.ownBlock = some g ∨ g = w.heap.size) → (∀ (q : Nat) (cur : Array Value), v.ownBlock = some q → w.heap[q]? = some (Obj.cells cur e (0, 0)) → ∃ cur', w'.heap[q]? = some (Obj.cells cur' e (0, 0)) ∧ cur'.size = cur.size) → wpList Pg ops Q rest (a.put o.dst (.slice (some ⟨g, 0, none⟩) (n + 1) c')) w') :
    wpList Pg ops Q (o :: rest) a w := by
  refine wpList_plain hgd fun K hK => ?_
  have hnw : ∀ (j : Nat) (y : Value), [u][j]? = some y → w.cell? (ad.add j) = some y := by
    intro j y hj
    match j, hj with
    | 0, hj => simp at hj; subst hj; exact hnews
  obtain ⟨g, c', w', hr, h2, h3, h4, _⟩ := run_append_lies (P := Pg) w t o.type 0 e i z 1 bytes ht hi hz hs1 hby hzs (by decide) v n xs hown ad 1 c [u] (by simp) hnw (by simpa using h1) (by decide) h63 hbytes (Nat.zero_le _) _ rfl
  have h6 : ∀ (q : Nat) (cur : Array Value), v.ownBlock = some q → w.heap[q]? = some (Obj.cells cur e (0, 0)) → ∃ cur', w'.heap[q]? = some (Obj.cells cur' e (0, 0)) ∧ cur'.size = cur.size := by
    intro q cur hq hg
    rcases hown.2 with ⟨rfl, _⟩ | ⟨g', cap, cur', rfl, _⟩
    · cases hq
    · injection hq with hq
      have hq' : g' = q := hq
      subst hq'
      exact append_kept ht hi hz hs1 hby hown hg hnews h1 h63 hbytes hr
  unfold Oper.wp execOp
  simp only [ho, resolve, invoke, builtin, Sem.run_bind, Sem.run_pure, Result.andThen_ok, List.map_toArray, List.map_cons, List.map_nil, hs, hx, hr]
  exact hK _ _ (h g c' w' h2 h3 h4 h6)
theorem own_kt {w w' : World} {t : TypeId} {base size n : Nat} {v : Value} {zs : List Value} (h : w.ownsRow base t size v n zs) (k : KT t w w') : ∃ zs', w'.ownsRow base t size v n zs' := by
  rcases h.2 with ⟨h1, h2⟩ | ⟨g, cap, cur, rfl, hb, hg, h1, h2, h3, h4⟩
  · exact ⟨zs, h.1, .inl ⟨h1, h2⟩⟩
  · obtain ⟨cur', hg', hs⟩ := k g cur hg
    refine ⟨cur'.toList.take (n * size), ?_, .inr ⟨g, cap, cur', rfl, hb, hg', h1, h2, by rw [hs, h3], rfl⟩⟩
    rw [List.length_take, Array.length_toList, hs, h3, Nat.min_eq_left]
    exact Nat.mul_le_mul_right _ h1
section
variable {P : Nat → Prop} {N : Nat} {w w' : World}
theorem own_obj {base size n c g : Nat} {t : TypeId} {zs : List Value} (h : w.ownsRow base t size (.slice (some ⟨g, 0, none⟩) n c) n zs) : ∃ cur, w.heap[g]? = some (Obj.cells cur t (0, 0)) := by
  rcases h.2 with ⟨h1, _⟩ | ⟨g', cap, cur, h1, _, hg, _⟩
  · cases h1
  · injection h1 with h1
    injection h1 with h1
    injection h1 with h1
    subst h1
    exact ⟨cur, hg⟩
theorem tm_set {t : TypeId} {size n c g j : Nat} {u : Value} {zs : List Value} (ht : t = 9 ∨ t = 24) (h : w.ownsRow 0 t size (.slice (some ⟨g, 0, none⟩) n c) n zs) (hp : P g) : Tm P N w (w.setCell ⟨g, j, none⟩ u) := by
  obtain ⟨cur, hg⟩ := own_obj h
  exact tm_one ht hg hp (only_set (only_refl g w) j u) (heap_set hg) (by simp)
theorem tm_grow {n : Nat} {v : Value} {zs : List Value} (h : w.ownsRow 0 9 1 v n zs) (hp : ∀ g, v.ownBlock = some g → P g) (hg : w.grownBy w' v.ownBlock) (hk : ∀ (q : Nat) (cur : Array Value), v.ownBlock = some q → w.heap[q]? = some (Obj.cells cur 9 (0, 0)) → ∃ cur', w'.heap[q]? = some (Obj.cells cur' 9 (0, 0)) ∧ cur'.size = cur.size) : Tm P N w w' := by
  rcases h.2 with ⟨rfl, _⟩ | ⟨g, cap, cur, rfl, _, hgg, _⟩
  · exact tm_below ⟨hg.os, hg.tape, hg.output, hg.size, fun i hi => hg.block i hi (fun e => by cases e)⟩
  · obtain ⟨cur', h1, h2⟩ := hk g cur rfl hgg
    exact tm_one (.inl rfl) hgg (hp g rfl) hg h1 h2
end
theorem len_nodes : ∀ F : Fo, F.len ≤ F.nodes
  | .nil => Nat.le_refl _
  | .cons _ _ _ K R => by
    have := len_nodes R
    show R.len + 1 ≤ K.nodes + R.nodes + 1
    omega
def SpoilOut (P : Nat → Prop) (N : Nat) (F : Fo) (w : World) (e : Ending) (w' : World) : Prop := e = .returned (.int .i64 F.nodes) ∧ Tm P (N + F.nodes) w w'
structure SL (w wr : World) (P : Nat → Prop) (N : Nat) (v : Value) (F : Fo) (i : Nat) (Fd R : Fo) (zs : List Value) : Prop where
  tm : Tm P (N + Fd.nodes) w wr
  own : wr.ownsRow 0 44 4 v F.len zs
  sh : Sh wr P (N + Fd.nodes) R (zs.drop (i * 4))
  len : i + R.len = F.len
  no : Fd.nodes + R.nodes = F.nodes
/-- in the loops over a statement's words, and its places -/
structure SW (wr wx : World) (P : Nat → Prop) (N : Nat) (v : Value) (n : Nat) (zs : List Value) : Prop where
  tm : Tm P N wr wx
  own : wx.ownsRow 0 44 4 v n zs
set_option maxHeartbeats 8000000 in
set_option maxRecDepth 100000 in
theorem spoil_any (P : Nat → Prop) : ∀ (m : Nat) (F : Fo), F.nodes = m → ∀ (N : Nat) (A : Option Addr) (c : Nat) (xs : List Value) (w : World), w.ownsRow 0 44 4 (.slice A F.len c) F.len xs → (∀ g, (Value.slice A F.len c).ownBlock = some g → P g) → (∀ g, w.heap.size ≤ g → P g) → Sh w P N F xs → N + F.nodes ≤ 1099511627776 →
    Calls Try.prog 19 #[.slice A F.len c] w (SpoilOut P N F w) := by
  intro m
  induction m using Nat.strongRecOn with
  | _ m ih =>
    intro F hF N A c xs w ho hA hP hs hN
    obtain ⟨si, sz0, sz, ss, sb⟩ := info_parts infoS
    have HIH := hide ih
    have HS0 := hide (show SL w w P N (.slice A F.len c) F 0 .nil F xs from ⟨Tm.refl _ _ _, ho, hs, by simp, by simp [Fo.nodes]⟩)
    have HA := hide hA
    have HP := hide hP
    have HM := hide hF
    have hfl := len_nodes F
    clear ho hA hP hs ih hF
    go_enter Try.func19, Try.ntmps19
    go_wp2_with fail
    go_loopw [3, 4] (fun q j wr => ∃ (i : Nat) (Fd R : Fo) (zs : List Value), j = .int .i64 i ∧ q = .int .i64 Fd.nodes ∧ SL w wr P N (.slice A F.len c) F i Fd R zs) (fun _ j _ => F.len - (intOf j).toNat)
    case atStart => exact ⟨0, .nil, F, xs, rfl, rfl, HS0.out⟩
    case round =>
      clear HS0
      obtain ⟨i, Fd, R, zs, rfl, rfl, hX⟩ := hrel
      obtain ⟨wa, rfl⟩ : ∃ x, x = wr := ⟨wr, rfl⟩
      have HX := hide hX
      have hXl := hX.len
      have hXn := hX.no
      cases R with
      | nil =>
        have hge : F.len = i := by simp only [Fo.len] at hXl; omega
        have d1 : decide (i < F.len) = false := decide_eq_false (by omega)
        have d1' : decide ((i : Int) < (F.len : Int)) = false := decide_eq_false (by omega)
        have HN := hide (show Fd.nodes = F.nodes from by simp only [Fo.nodes] at hXn; omega)
        clear hX hXl hXn hge
        go_wp2_with fail
        go_ret
        have := HX.out.tm
        rw [HN.out] at this ⊢
        exact ⟨rfl, this⟩
      | cons ws ps blk K R =>
        obtain ⟨vw, vp, b, vk, ys, xs1, hxs, h1, h2, h3, h4, h5⟩ := hX.sh
        obtain ⟨nw, zw, hnw, how, hpw⟩ := h1
        obtain ⟨np, zp, hnp, hop, hpp⟩ := h2
        have hlt : i < F.len := by simp only [Fo.len] at hXl; omega
        obtain ⟨g, c', hgc, -, -⟩ := own_some hX.own (by omega)
        injection hgc with q1 q2 q3
        subst q1 q3
        obtain ⟨Aw, cw, rfl⟩ := own_slice how
        obtain ⟨Ap, cp, rfl⟩ := own_slice hop
        obtain ⟨Ak, ck, rfl⟩ := own_slice h3.1
        have HOW := hide how
        have HOP := hide hop
        have HPW := hide hpw
        have HPP := hide hpp
        have HXS := hide hxs
        have HNW := hide hnw
        have HLN := hide (show i + (R.len + 1) = F.len from hXl)
        have HNO := hide (show Fd.nodes + (K.nodes + R.nodes + 1) = F.nodes from hXn)
        have HZ : Hid (∀ j u, (Value.slice Aw nw cw :: .slice Ap np cp :: b :: .slice Ak K.len ck :: xs1)[j]? = some u → zs[i * 4 + j]? = some u) := hide (fun j u hj => by rw [← hxs, List.getElem?_drop] at hj; exact hj)
        have d1 : decide (i < F.len) = true := decide_eq_true hlt
        have d1' : decide ((i : Int) < (F.len : Int)) = true := decide_eq_true (by omega)
        have d2 : ((i : Int) < (F.len : Int)) := by omega
        have hnwb : nw ≤ 1099511627776 := by omega
        have hnpb : np ≤ 1099511627776 := by omega
        have HNB := hide (show Fd.nodes + (K.nodes + 1) ≤ 1099511627776 from by have h : Fd.nodes + (K.nodes + R.nodes + 1) = F.nodes := hXn; omega)
        clear hX hXl hXn how hop hpw hpp hxs hnw h3 h4 h5 q2
        go_wp2_with fail
        go_loopw [5] (fun j wx => ∃ (k : Nat) (zw' : List Value), j = .int .i64 k ∧ k ≤ nw ∧ SW wa wx P (N + Fd.nodes) (.slice (some ⟨g, 0, none⟩) F.len c) F.len zs ∧ wx.ownsRow 0 9 1 (.slice Aw nw cw) nw zw') (fun j _ => nw - (intOf j).toNat)
        case atStart => exact ⟨0, _, rfl, Nat.zero_le _, ⟨Tm.refl _ _ _, HX.out.own⟩, HOW.out⟩
        case round =>
          obtain ⟨k, zw', rfl, hk, hSW, hown⟩ := hrel
          have c0 := own_cells hSW.own (i * 4) (.slice Aw nw cw) (by have := HZ.out 0 _ rfl; simpa using this)
          rw [show (⟨g, 0, none⟩ : Addr).add (i * 4) = ⟨g, i * 4, none⟩ by simp [Addr.add, eq_comm]] at c0
          have HSW := hide hSW
          rcases Nat.lt_or_ge k nw with hkl | hkg
          · obtain ⟨gw, cw', hgw, -, -⟩ := own_some hown (by omega)
            injection hgw with q1 q2 q3
            subst q1 q3
            have hst := hown.stored k (.string ⟨#[115, 112, 111, 105, 108, 116]⟩)
            obtain ⟨cur, hcur⟩ := own_obj hown
            have f0 := frozen_heap (j := k) hcur
            obtain ⟨u, hu⟩ : ∃ u, zw'[k]? = some u := ⟨zw'[k]'(by rw [hown.1]; omega), List.getElem?_eq_getElem _⟩
            have cu := own_cells hown k u hu
            rw [show (⟨gw, 0, none⟩ : Addr).add k = ⟨gw, k, none⟩ by simp [Addr.add, eq_comm]] at cu
            have z1 : decide (k < nw) = true := decide_eq_true hkl
            have z1' : decide ((k : Int) < (nw : Int)) = true := decide_eq_true (by omega)
            have z2 : ((k : Int) < (nw : Int)) := by omega
            have HST := hide hst
            have HTM := hide (tm_set (P := P) (N := N + Fd.nodes) (j := k) (u := .string ⟨#[115, 112, 111, 105, 108, 116]⟩) (.inl rfl) hown (HPW.out gw rfl))
            have HNE := hide (own_types hSW.own hown (by decide))
            have HKL := hide hkl
            clear hk hSW hown hst hcur hu q2 hkl
            go_wp2_with fail
            go_roundw
            case rel => exact ⟨k + 1, _, by go_num, HKL.out, ⟨HSW.out.tm.trans HTM.out (Nat.le_refl _), own_kept HSW.out.own HST.out.2 (fun q e e' => HNE.out q e' e)⟩, HST.out.1⟩
            case measure => have := HKL.out; simp [intOf]; omega
          · have z1 : decide (k < nw) = false := decide_eq_false (by omega)
            have z1' : decide ((k : Int) < (nw : Int)) = false := decide_eq_false (by omega)
            clear hk hkg hown hSW
            go_wp2_with fail
            clear z1 z1' c0
            go_loopw [6] (fun j wy => ∃ (k : Nat) (zp' : List Value), j = .int .i64 k ∧ k ≤ np ∧ SW wa wy P (N + Fd.nodes) (.slice (some ⟨g, 0, none⟩) F.len c) F.len zs ∧ wy.ownsRow 0 24 2 (.slice Ap np cp) np zp') (fun j _ => np - (intOf j).toNat)
            case atStart =>
              obtain ⟨zp', hzp'⟩ := own_kt HOP.out HSW.out.tm.pos
              exact ⟨0, _, rfl, Nat.zero_le _, HSW.out, hzp'⟩
            case round =>
              clear HSW
              obtain ⟨k, zp', rfl, hk, hSW, hown⟩ := hrel
              have c1 := own_cells hSW.own (i * 4 + 1) (.slice Ap np cp) (HZ.out 1 _ rfl)
              rw [show (⟨g, 0, none⟩ : Addr).add (i * 4 + 1) = ⟨g, i * 4 + 1, none⟩ by simp [Addr.add, eq_comm]] at c1
              have HSW := hide hSW
              rcases Nat.lt_or_ge k np with hkl | hkg
              · obtain ⟨gp, cp', hgp, -, -⟩ := own_some hown (by omega)
                injection hgp with q1 q2 q3
                subst q1 q3
                have hst := hown.stored (k * 2) (.int .i64 (-1))
                obtain ⟨cur, hcur⟩ := own_obj hown
                have f0 := frozen_heap (j := k * 2) hcur
                obtain ⟨u, hu⟩ : ∃ u, zp'[k * 2]? = some u := ⟨zp'[k * 2]'(by rw [hown.1]; omega), List.getElem?_eq_getElem _⟩
                have cu := own_cells hown (k * 2) u hu
                rw [show (⟨gp, 0, none⟩ : Addr).add (k * 2) = ⟨gp, k * 2, none⟩ by simp [Addr.add, eq_comm]] at cu
                have z1 : decide (k < np) = true := decide_eq_true hkl
                have z1' : decide ((k : Int) < (np : Int)) = true := decide_eq_true (by omega)
                have z2 : ((k : Int) < (np : Int)) := by omega
                have HST := hide hst
                have HTM := hide (tm_set (P := P) (N := N + Fd.nodes) (j := k * 2) (u := .int .i64 (-1)) (.inr rfl) hown (HPP.out gp rfl))
                have HNE := hide (own_types hSW.own hown (by decide))
                have HKL := hide hkl
                clear hk hSW hown hst hcur hu q2 hkl
                go_wp2_with fail
                go_roundw
                case rel => exact ⟨k + 1, _, by go_num, HKL.out, ⟨HSW.out.tm.trans HTM.out (Nat.le_refl _), own_kept HSW.out.own HST.out.2 (fun q e e' => HNE.out q e' e)⟩, HST.out.1⟩
                case measure => have := HKL.out; simp [intOf]; omega
              · have z1 : decide (k < np) = false := decide_eq_false (by omega)
                have z1' : decide ((k : Int) < (np : Int)) = false := decide_eq_false (by omega)
                have c0 := own_cells hSW.own (i * 4) (.slice Aw nw cw) (by have := HZ.out 0 _ rfl; simpa using this)
                rw [show (⟨g, 0, none⟩ : Addr).add (i * 4) = ⟨g, i * 4, none⟩ by simp [Addr.add, eq_comm]] at c0
                obtain ⟨zw2, hzw2⟩ := own_kt HOW.out hSW.tm.str
                have HW2 := hide hzw2
                have c0' := fun o => cellB (bel_one wr o) c0
                clear hk hown hSW hzw2
                go_wp2_with (at_builtin; go_must (refine wpL_tame rfl (.tmp 54) (.tmp 55) 41 rfl 9 si _ 16 Try.underlying41 sz0 sz ss sb rfl (.slice Aw nw cw) nw zw2 rfl (HW2.out.alloc _) ⟨wr.heap.size, 0, none⟩ 1 (.string ⟨#[98, 101, 104, 105, 110, 100]⟩) rfl (cell_heap (j := 0) (heap_new wr _) rfl) rfl ?c63 ?cby ?_))
                case c63 => unfold maxLen; omega
                case cby => omega
                intro gv cv' y hown hgr hk6 hkept
                have hal : Tm P (N + Fd.nodes) wr (wr.alloc (Obj.cells #[.string ⟨#[98, 101, 104, 105, 110, 100]⟩] 9)) := tm_below (bel_one wr _)
                have how1 := HW2.out.alloc (Obj.cells #[.string ⟨#[98, 101, 104, 105, 110, 100]⟩] 9)
                have hno1 := HSW.out.own.alloc (Obj.cells #[.string ⟨#[98, 101, 104, 105, 110, 100]⟩] 9)
                have t3 := tm_grow (P := P) (N := N + Fd.nodes) how1 HPW.out hgr hkept
                have hn1 := own_kept hno1 hgr (fun q e e' => own_types hno1 how1 (by decide) q e' e)
                obtain ⟨cur, hcur⟩ := own_obj hn1
                have hrw : RwO y P 9 1 (N + Fd.nodes + 1) (.slice (some ⟨gv, 0, none⟩) (nw + 1) cv') := ⟨nw + 1, _, by have := HNW.out; omega, hown, fun q e => by
                  injection e with e
                  have e' : gv = q := e
                  subst e'
                  rcases hk6 with h | h
                  · exact HPW.out _ h
                  · refine HP.out _ ?_
                    rw [h]
                    exact Nat.le_trans (Nat.le_trans HX.out.tm.size HSW.out.tm.size) (Nat.le_succ _)⟩
                have t4 := tm_words (i := i) hcur (HA.out g rfl) hrw
                have TT := ((HSW.out.tm.trans hal (Nat.le_refl _)).trans t3 (Nat.le_refl _)).trans t4 (Nat.le_succ _)
                have hst := hn1.stored (i * 4) (.slice (some ⟨gv, 0, none⟩) (nw + 1) cv')
                have hsh := Sh.tame TT (Nat.le_succ _) HX.out.sh (XS.set (i := i) (by rw [HX.out.own.1]; omega) (hrw.kt (Nat.le_refl _) t4.str)).drop
                obtain ⟨vw2, vp2, b2, vk2, ys2, xs2, he2, -, -, hk2, hsK, hsR⟩ := hsh
                have hz3 : (zs.set (i * 4) (.slice (some ⟨gv, 0, none⟩) (nw + 1) cv'))[i * 4 + 3]? = some (.slice Ak K.len ck) := by
                  rw [List.getElem?_set_ne (by omega)]
                  exact HZ.out 3 _ rfl
                have hvk : vk2 = .slice Ak K.len ck := by
                  have h3 := congrArg (fun l => l[3]?) he2
                  simp only [List.getElem?_drop, hz3] at h3
                  simpa using h3.symm
                subst hvk
                have hx2 : (zs.set (i * 4) (.slice (some ⟨gv, 0, none⟩) (nw + 1) cv')).drop ((i + 1) * 4) = xs2 := by
                  rw [show (i + 1) * 4 = i * 4 + 4 by omega, ← List.drop_drop, he2]
                  rfl
                have y0 := own_cells hn1 (i * 4) (.slice Aw nw cw) (by have := HZ.out 0 _ rfl; simpa using this)
                rw [show (⟨g, 0, none⟩ : Addr).add (i * 4) = ⟨g, i * 4, none⟩ by simp [Addr.add, eq_comm]] at y0
                have f0 := frozen_heap (j := i * 4) hcur
                have c3 := own_cells hst.1 (i * 4 + 3) _ hz3
                rw [show (⟨g, 0, none⟩ : Addr).add (i * 4 + 3) = ⟨g, i * 4 + 3, none⟩ by simp [Addr.add, eq_comm]] at c3
                have HREC := hide (HIH.out K.nodes (by have h1 := HNO.out; have h2 := HM.out; omega) K rfl (N + Fd.nodes + 1) Ak ck ys2 _ hk2.1 hk2.2 (fun q hq => HP.out q (Nat.le_trans (Nat.le_trans HX.out.tm.size TT.size) hq)) hsK (by have h1 := HNO.out; omega))
                have HTT := hide TT
                have HST := hide hst.1
                have HSR := hide hsR
                have HX2 := hide hx2
                have hnb := HNB.out
                clear hal how1 hno1 t3 hn1 hcur hrw t4 TT hst he2 hk2 hsK hsR hz3 hx2 hown hgr hk6 hkept HSW HW2 c0' c0
                go_wp2_with fail
                clear y0 f0
                refine HREC.out.mono ?_
                rintro e w5 ⟨rfl, htm5⟩
                obtain ⟨zs5, hz5, hx5⟩ := htm5.row HST.out
                have hxd := hx5.drop (i := i + 1)
                rw [HX2.out] at hxd
                have hsR5 := Sh.tame htm5 (by omega) HSR.out hxd
                have HSL := hide (show SL w w5 P N (.slice (some ⟨g, 0, none⟩) F.len c) F (i + 1) (Fd.app (.cons ws ps blk K .nil)) R zs5 from by
                  have hna : (Fd.app (.cons ws ps blk K .nil)).nodes = Fd.nodes + (K.nodes + 1) := by rw [nodes_app]; rfl
                  refine ⟨?_, hz5, ?_, by have := HLN.out; omega, by rw [hna]; have := HNO.out; omega⟩
                  · rw [hna, show N + (Fd.nodes + (K.nodes + 1)) = N + Fd.nodes + 1 + K.nodes by omega]
                    exact (HX.out.tm.trans HTT.out (Nat.le_succ _)).trans htm5 (by omega)
                  · rw [hna, show N + (Fd.nodes + (K.nodes + 1)) = N + Fd.nodes + 1 + K.nodes by omega]
                    exact hsR5)
                clear htm5 hz5 hx5 hxd hsR5 HREC HTT HST HSR HX2 c3
                go_wp2_with fail
                go_roundw
                case rel => exact ⟨i + 1, Fd.app (.cons ws ps blk K .nil), R, zs5, by go_num, congrArg (Value.int .i64) (by rw [nodes_app]; simp only [Fo.nodes]; omega), HSL.out⟩
                case measure => have := HLN.out; simp [intOf]; omega
end Go.Proofs.Ytihmmmodimionaa.Tr
/- TreeReads, walked. -/
namespace Go.Proofs.Ytihmmmodimionaa.Tr
open Go.RowKit Go.Proofs.Ytihmmmodimionaa Go.Proofs.Ytihmmmodimionaa.Lx

theorem toks_len : ∀ (f : Nat) (s : List UInt8) (l c : Int) (ts : List Tok), toks f s l c = .ok ts → ts.length ≤ s.length
  | 0, _, _, _, ts, h => by cases h; simp
  | f + 1, [], _, _, ts, h => by cases h; simp
  | f + 1, x :: xs, l, c, ts, h => by
    rw [toks_step f _ l c (by simp)] at h
    cases he : (Lx.step (x :: xs)).err with
    | true => rw [he] at h; simp at h
    | false =>
      rw [he] at h
      have hn := step_n (x :: xs) (by simp) he
      simp only [Bool.false_eq_true, if_false] at h
      cases e : toks f ((x :: xs).drop (Lx.step (x :: xs)).n) (adv ((x :: xs).take (Lx.step (x :: xs)).n) l c).1 (adv ((x :: xs).take (Lx.step (x :: xs)).n) l c).2 with
      | error q => rw [e] at h; cases h
      | ok us =>
        rw [e] at h
        injection h with h
        subst h
        have h1 := toks_len f _ _ _ us e
        rw [List.length_drop] at h1
        rw [List.length_append]
        split <;> simp only [List.length_cons, List.length_nil] at hn h1 ⊢ <;> omega
theorem tokRes_len (s : List UInt8) : (tokRes s).1.length ≤ 65536 := by
  unfold tokRes
  split
  · rename_i hc
    split
    · simp
    · rename_i us e
      exact Nat.le_trans (toks_len _ _ _ _ _ e) (chk_len hc)
  · simp
theorem rows_bound : ∀ (F : Fo) (d : Nat), ∀ r ∈ rowsF d F, r.ws.length ≤ szF F ∧ r.ps.length ≤ szF F
  | .nil, _, r, h => by cases h
  | .cons ws ps b K R, d, r, h => by
    have hz : szF (.cons ws ps b K R) = ws.length + ps.length + 1 + szF K + szF R := rfl
    rw [rowsF] at h
    rcases List.mem_cons.1 h with rfl | h
    · exact ⟨by simp only; omega, by simp only; omega⟩
    · rcases List.mem_append.1 h with h | h
      · have := rows_bound K (d + 1) r h; omega
      · have := rows_bound R d r h; omega
/-- both Parses of a text -/
theorem parse_both (s : ByteArray) (hlen : s.size ≤ maxLen) : ∃ (F : Fo) (l c e : Int), Gd F ∧ dpF 0 F = true ∧ szF F ≤ 17179869184 ∧
    (∀ w : World, Calls Try.prog 16 #[.string s] w fun e' w' => Below w.heap.size w w' ∧ ∃ v xs B, e' = .returned (.tuple #[v, .agg #[.int .i64 l, .int .i64 c], .int .i64 e]) ∧ Ro w w' v (rowsF 0 F) xs B) ∧
    (∀ (w : World) (m : Int), w.cell? ⟨0, 0, none⟩ = some (.int .i64 m) → Calls Try.prog 12 #[.string s] w fun e' w' => Below w.heap.size w w' ∧ ∃ v xs B, e' = .returned (.tuple #[v, .agg #[.int .i64 l, .int .i64 c], .int .i64 e]) ∧ LoS w w' v F xs B) := by
  have hr := parse_ref (T s)
  have ha := fun w => rparse_any s w hlen
  have hb := fun w m hm => parse_anyS s w hlen m hm
  cases hp : parseF (T s) with
  | ok F r =>
    rw [hp] at hr
    obtain ⟨h1, h2, h3⟩ := parse_nice (T s) F r (tokRes_len _) hp
    refine ⟨F, 0, 0, 0, h1, h2, h3, fun w => ?_, fun w m hm => ?_⟩
    · have := ha w
      rw [show rparseF (T s) = .ok (rowsF 0 F) [] [] from hr] at this
      exact this.mono fun e' w' h => h
    · have := hb w m hm
      rw [hp] at this
      exact this.mono fun e' w' h => h
  | err e l c =>
    rw [hp] at hr
    refine ⟨.nil, l, c, e, trivial, rfl, by simp [szF], fun w => ?_, fun w m hm => ?_⟩
    · have := ha w
      rw [show rparseF (T s) = .err e l c from hr] at this
      exact this.mono fun e' w' h => ⟨h.1, _, _, _, h.2.2, ro_nil w w'⟩
    · have := hb w m hm
      rw [hp] at this
      exact this.mono fun e' w' h => ⟨h.1, _, _, _, h.2.2, los_nil w w'⟩
theorem nodes_sz : ∀ F : Fo, F.nodes ≤ szF F
  | .nil => Nat.le_refl _
  | .cons ws ps _ K R => by
    have h1 := nodes_sz K
    have h2 := nodes_sz R
    show K.nodes + R.nodes + 1 ≤ ws.length + ps.length + 1 + szF K + szF R
    omega
theorem Tm.below {P : Nat → Prop} {N B : Nat} {w w' : World} (h : Tm P N w w') (hB : ∀ g, P g → B ≤ g) (hs : B ≤ w.heap.size) : Below B w w' :=
  ⟨h.os, h.tape, h.output, h.size, fun i hi => h.far i (Nat.lt_of_lt_of_le hi hs) (fun hp => by have := hB i hp; omega)⟩
/-- what was read stays, while what was read besides is written over -/
theorem Tm.fov {P : Nat → Prop} {N : Nat} {w w' : World} {B : Nat → Prop} {F : Fo} {xs : List Value} (h : Tm P N w w') (hf : FoV w B F xs) (hB : ∀ g, B g → g < w.heap.size ∧ ¬ P g) : FoV w' B F xs := hf.keep (fun b hb => h.far b (hB b hb).1 (hB b hb).2)
theorem Tm.rwv {P : Nat → Prop} {N : Nat} {w w' : World} {B : Nat → Prop} {rs : List RowD} {xs : List Value} (h : Tm P N w w') (hf : RwV w B rs xs) (hB : ∀ g, B g → g < w.heap.size ∧ ¬ P g) : RwV w' B rs xs := hf.keep (fun b hb => h.far b (hB b hb).1 (hB b hb).2)
theorem Tm.own {P : Nat → Prop} {N base size n : Nat} {t : TypeId} {w w' : World} {v : Value} {xs : List Value} (h : Tm P N w w') (ho : w.ownsRow base t size v n xs) (hB : ∀ g, v.ownBlock = some g → ¬ P g) : w'.ownsRow base t size v n xs := own_heap ho (fun g e => h.far g (ho.lt g e).2 (hB g e))
set_option maxHeartbeats 8000000 in
set_option maxRecDepth 100000 in
theorem reads_any (s : ByteArray) (w : World) (hlen : s.size ≤ maxLen) (m : Int) (hm : w.cell? ⟨0, 0, none⟩ = some (.int .i64 m)) :
    Calls Try.prog 5 #[.string s] w fun e w' => e = .returned (.bool true) ∧ Below w.heap.size w w' := by
  obtain ⟨F, l, c, e, hgd, hdp, hsz, hR, hP⟩ := parse_both s hlen
  have h0 := lt_of_cell hm
  have HM := hide hm
  have HG := hide (And.intro hgd hdp)
  have HR := hide hR
  have HP := hide hP
  have hns := nodes_sz F
  have HNR := hide (nodes_rows F 0)
  clear hm hgd hdp hR hP
  go_enter Try.func5, Try.ntmps5
  go_wp2_with fail
  refine (HR.out w).mono ?_
  rintro e1 w1 ⟨hb1, vW, xW, BW, rfl, hW⟩
  have hbx1 := below_lo hb1 (bel_one w1 (PosC l c)) hb1.size
  obtain ⟨AW, cW, rfl⟩ := own_slice hW.own
  have hW1 := hW.grow (World.grownBy_alloc w1 (PosC l c) none) (fun b e => by cases e)
  have HB1 := hide hbx1
  have HW := hide hW1
  have HPC := hide (heap_new w1 (PosC l c))
  have HS1 := hide hW
  clear hb1 hbx1 hW hW1 HR
  go_wp2_with fail
  generalize w1.alloc (PosC l c) = x1 at *
  refine (HP.out x1 m (cell_lo HB1.out (a := ⟨0, 0, none⟩) h0 HM.out)).mono ?_
  rintro e2 w2 ⟨hb2, va, xa, BA, rfl, hA⟩
  have hbx2 := below_lo hb2 (bel_one w2 (PosC l c)) hb2.size
  obtain ⟨AA, cA, rfl⟩ := own_slice hA.own
  have HA2 := hide hA
  have HA := hide (hA.grow (World.grownBy_alloc w2 (PosC l c) none) (fun b e => by cases e))
  have HB2 := hide hbx2
  have HPD := hide (heap_new w2 (PosC l c))
  have HW2 := hide (HW.out.grow (grown_of_below hbx2) (fun b e => by cases e))
  have HPC2 := hide (heapB hbx2 HPC.out)
  have HS2 := hide (show w2.heap.size < (w2.alloc (PosC l c)).heap.size from by simp)
  clear hb2 hbx2 hA HW
  go_wp2_with fail
  generalize w2.alloc (PosC l c) = x2 at *
  have HB12 := hide (below_lo HB1.out HB2.out HB1.out.size)
  refine (HP.out x2 m (cell_lo HB12.out (a := ⟨0, 0, none⟩) h0 HM.out)).mono ?_
  rintro e3 w3 ⟨hb3, vb, xb, BB, rfl, hBv⟩
  have hbx3 := below_lo hb3 (bel_one w3 (PosC l c)) hb3.size
  obtain ⟨AB, cB, rfl⟩ := own_slice hBv.own
  have HBv2 := hide hBv
  have HBv := hide (hBv.grow (World.grownBy_alloc w3 (PosC l c) none) (fun b e => by cases e))
  have HB3 := hide hbx3
  have HW3 := hide (HW2.out.grow (grown_of_below hbx3) (fun b e => by cases e))
  have HA3 := hide (HA.out.grow (grown_of_below hbx3) (fun b e => by cases e))
  have HPC3 := hide (heapB hbx3 HPC2.out)
  have HPD3 := hide (heapB hbx3 HPD.out)
  have p0 := cell_heap (j := 0) HPC3.out rfl
  have p1 := cell_heap (j := 1) HPC3.out rfl
  have q0 := cell_heap (j := 0) HPD3.out rfl
  have q1 := cell_heap (j := 1) HPD3.out rfl
  have bl : (l == l) = true := by simp
  have bc : (c == c) = true := by simp
  have be : (e != e) = false := by simp
  clear hb3 hbx3 hBv HP HA HW2 HPC2 HPD
  go_wp2_with fail
  generalize w3.alloc (PosC l c) = x3 at *
  clear p0 p1 q0 q1 bl bc
  have HB13 := hide (below_lo HB12.out HB3.out HB12.out.size)
  have hlA : ∀ q, BA q → x1.heap.size ≤ q ∧ q < w2.heap.size := fun q hq => ⟨(HA2.out.hB q hq).1, (HA2.out.hB q hq).2.1⟩
  have hoA : ∀ q, (Value.slice AA F.len cA).ownBlock = some q → x1.heap.size ≤ q ∧ q < w2.heap.size := fun q e => HA2.out.own.lt q e
  have hlB : ∀ q, BB q → x2.heap.size ≤ q ∧ q < x3.heap.size := fun q hq => ⟨(HBv.out.hB q hq).1, (HBv.out.hB q hq).2.1⟩
  have hoB : ∀ q, (Value.slice AB F.len cB).ownBlock = some q → x2.heap.size ≤ q ∧ q < x3.heap.size := fun q e => HBv.out.own.lt q e
  have hlW : ∀ q, BW q → q < w1.heap.size := fun q hq => (HS1.out.hB q hq).2.1
  have hoW : ∀ q, (Value.slice AW (rowsF 0 F).length cW).ownBlock = some q → q < w1.heap.size := fun q e => (HS1.out.own.lt q e).2
  have h23 := HB3.out.size
  have h12 := HB2.out.size
  have h1x : w1.heap.size < x1.heap.size := lt_heap HPC.out
  have hs2 := HS2.out
  have h01 := HB1.out.size
  have HLA := hide hlA
  have HOA := hide hoA
  have HLB := hide hlB
  have HOB := hide hoB
  have HLW := hide hlW
  have HOW := hide hoW
  have hrl : (rowsF 0 F).length ≤ 1099511627776 := by have := HNR.out; omega
  have HBN := hide (show ∀ r ∈ rowsF 0 F, r.ws.length ≤ 1099511627776 ∧ r.ps.length ≤ 1099511627776 from fun r hr => by have := rows_bound F 0 r hr; omega)
  clear hlA hoA hlB hoB hlW hoW
  refine (rowsG_any F.nodes F rfl 0 AA cA xa BA x3 (own_src HA3.out.own) HA3.out.fo (fun q hq => (HA3.out.hB q hq).2.1) (fun a ha => (HA3.out.own.lt a.block (by rw [ha]; rfl)).2) (by omega) HG.out.1 HG.out.2 (by omega)).mono ?_
  rintro e4 w4 ⟨hb4, v4, y4, B4, rfl, h4, -⟩
  obtain ⟨A4, c4, rfl⟩ := own_slice h4.own
  have HR4 := hide h4
  have HW4 := hide (HW3.out.grow (grown_of_below hb4) (fun b e => by cases e))
  have HA4 := hide (HA3.out.grow (grown_of_below hb4) (fun b e => by cases e))
  have HB4 := hide (HBv.out.grow (grown_of_below hb4) (fun b e => by cases e))
  have HB14 := hide (below_lo HB13.out hb4 HB13.out.size)
  have h34 := hb4.size
  clear hb4 h4 HW3 HA3 HBv
  go_wp2_with fail
  refine (Exact_eq (rowsF 0 F) A4 AW c4 cW y4 xW B4 BW w4 (own_src HR4.out.own) HR4.out.rw' (own_src HW4.out.own) HW4.out.rw' hrl HBN.out).mono ?_
  rintro e5 w5 ⟨rfl, hb5⟩
  have HW5 := hide (HW4.out.grow (grown_of_below hb5) (fun b e => by cases e))
  have HA5 := hide (HA4.out.grow (grown_of_below hb5) (fun b e => by cases e))
  have HB5 := hide (HB4.out.grow (grown_of_below hb5) (fun b e => by cases e))
  have HB15 := hide (below_lo HB14.out hb5 HB14.out.size)
  have h45 := hb5.size
  clear hb5 HW4 HA4 HB4 HR4
  go_wp2_with fail
  refine (spoil_any (fun g => (x1.heap.size ≤ g ∧ g < w2.heap.size) ∨ w5.heap.size ≤ g) F.nodes F rfl (szF F) AA cA xa w5 (own_base HA5.out.own (Nat.zero_le _)) (fun g e => .inl (HOA.out g e)) (fun g h => .inr h) ((HA5.out.fs.mono (fun q hq => .inl (HLA.out q hq))).sh (Nat.le_refl _)) (by omega)).mono ?_
  rintro e6 w6 ⟨rfl, htm⟩
  have HTM := hide htm
  have h56 := htm.size
  have hcm : ((F.nodes : Int) != ((rowsF 0 F).length : Int)) = false := by rw [HNR.out]; simp
  have HB16 := hide (HB15.out.trans (htm.below (B := w.heap.size) (fun g hg => by rcases hg with h | h <;> omega) HB15.out.size))
  have HRB := hide (rowsG_any F.nodes F rfl 0 AB cB xb BB w6 (own_src (htm.own HB5.out.own (fun g e => by have := HOB.out g e; omega))) (htm.fov HB5.out.fo (fun g hg => by have := HLB.out g hg; exact ⟨by omega, by omega⟩)) (fun q hq => by have := HLB.out q hq; omega) (fun a ha => by have := HOB.out a.block (by rw [ha]; rfl); omega) (by omega) HG.out.1 HG.out.2 (by omega))
  have HW6 := hide (And.intro (htm.own HW5.out.own (fun g e => by have := HOW.out g e; omega)) (htm.rwv HW5.out.rw' (fun g hg => by have := HLW.out g hg; exact ⟨by omega, by omega⟩)))
  clear htm HW5 HA5 HB5
  go_wp2_with fail
  refine HRB.out.mono ?_
  rintro e7 w7 ⟨hb7, v7, y7, B7, rfl, h7, -⟩
  obtain ⟨A7, c7, rfl⟩ := own_slice h7.own
  have HR7 := hide h7
  have HW7 := hide (And.intro (own_below HW6.out.1 hb7) (HW6.out.2.keep (fun b hb => hb7.block b (by have := HLW.out b hb; omega))))
  have HB17 := hide (below_lo HB16.out hb7 HB16.out.size)
  clear h7 hb7 HW6 HRB
  go_wp2_with fail
  refine (Exact_eq (rowsF 0 F) A7 AW c7 cW y7 xW B7 BW w7 (own_src HR7.out.own) HR7.out.rw' (own_src HW7.out.1) HW7.out.2 hrl HBN.out).mono ?_
  rintro e8 w8 ⟨rfl, hb8⟩
  have HB18 := hide (below_lo HB17.out hb8 HB17.out.size)
  have HM8 := hide (cell_lo HB18.out (a := ⟨0, 0, none⟩) h0 HM.out)
  clear hb8 HR7 HW7
  go_wp2_with fail
  refine (awake_any w8 m HM8.out).mono ?_
  rintro e9 w9 ⟨rfl, hb9⟩
  have HB19 := hide (below_lo HB18.out hb9 HB18.out.size)
  clear hb9
  go_wp2_with fail
  go_ret
  exact ⟨rfl, HB19.out⟩
end Go.Proofs.Ytihmmmodimionaa.Tr
