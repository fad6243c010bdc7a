/- each: the walk, made. -/
import Derived.Test.YtgfjdkkfgclhjaaBM
namespace Go.Proofs.Ytgfjdkkfgclhjaa.Bd
open Go.RowKit Go.Proofs.Ytgfjdkkfgclhjaa Go.Proofs.Ytgfjdkkfgclhjaa.Lx Go.Maps

theorem walk_room {a n : Nat} : (n + 1) * 2 ^ (n + 1 + 2) = 2 * (n * 2 ^ (n + 2)) + 2 ^ (n + 1 + 2) ∧ 2 ^ (n + 1) = 2 * 2 ^ n ∧ 1 ≤ 2 ^ n := by
  refine ⟨?_, by rw [Nat.pow_succ]; omega, Nat.one_le_two_pow⟩
  rw [show n + 1 + 2 = (n + 2) + 1 by omega, Nat.pow_succ, Nat.add_mul, Nat.one_mul, ← Nat.mul_assoc, Nat.mul_comm (n * 2 ^ (n + 2)) 2]
theorem room_mono {a b : Nat} (h : a ≤ b) : a * 2 ^ (a + 2) ≤ b * 2 ^ (b + 2) ∧ 2 ^ a ≤ 2 ^ b := ⟨Nat.mul_le_mul h (Nat.pow_le_pow_right (by omega) (by omega)), Nat.pow_le_pow_right (by omega) h⟩

/-- an arena doesn't see another map -/
theorem hA4x {w w' : World} {k : Blk} {s : St} {p b1 b2 b3 b4 db N base : Nat} {M : FuncId} {caps : Array Value} {fd : Int → Option Int} (h : Ar w k s) (E : Es w p b1 b2 b3 b4 db N M caps fd) (A : Apart k base b1 b2 b3 b4 db) (hmt : w.mapTurned w' db) : Ar w' k s := by
  obtain ⟨fb, ft, H, I⟩ := h
  exact ⟨fb, ft, H.kept hmt.grown (fun b e => by injection e with e; subst e; exact A.nd), I⟩
theorem made_call {S : Nat → Bool} {nd0 : List Nd} {S' : Nat → Nat → Bool} {bd : Nat → Nat → Prop} {T : (Env → Bool) → Env → Bool} {k0 k2 k3 : Blk} {w0 wd w3 : World} {M : FuncId} {caps : Array Value} {db t lo hi tl th x1 x2 : Nat} {Fl Fh : Env → Bool} {s2 s3 : St} (HM : MadeOK S nd0 S' bd T k0 w0 M caps) (hA3 : Ar w3 k3 s3) (U3 : Up s2 s3) (hex : ∃ ex, s2.nd = nd0 ++ ex)
    (X3 : TurnX db k2 k3 wd w3) (T2 : Turn k0 k2 w0 wd) (hdb : w0.heap.size ≤ db) (g1 : GoodAt S nd0 S' bd T s2.nd lo x1) (g2 : GoodAt S nd0 S' bd T s3.nd hi x2) (dl : Den S nd0 lo tl Fl) (dh : Den S nd0 hi th Fh) (h1 : t < tl) (h2 : t < th) (ht : t < 256) (hS : S t = true) (hm : s3.m + 2 ^ (nS S t + 2) ≤ 1000000000) :
    Calls Try.prog M (#[.int .i32 t, .int .i32 x1, .int .i32 x2] ++ caps) w3 (NodeOut k3 s3 w3 (2 ^ (nS S t + 2)) (fun nd' r => ∃ t', bd t t' ∧ Den (S' t) nd' r t' (T (fun ρ => if ρ t then Fh ρ else Fl ρ)))) := by
  obtain ⟨ex, hex⟩ := hex
  obtain ⟨ex3, hex3⟩ := U3.nd
  obtain ⟨t1, b1, d1⟩ := g1.up U3 tl Fl dl
  obtain ⟨t2, b2, d2⟩ := g2 th Fh dh
  exact HM k3 s3 w3 t tl th x1 x2 t1 t2 Fl Fh (X3.turn T2 hdb) hA3 ⟨ex ++ ex3, by rw [hex3, hex, List.append_assoc]⟩ ht hS h1 h2 b1 d1 b2 d2 (fun ρ ρ' h => dl.indep ρ ρ' (fun x hx => h x (by omega))) (fun ρ ρ' h => dh.indep ρ ρ' (fun x hx => h x (by omega))) hm

set_option maxHeartbeats 8000000 in
set_option maxRecDepth 100000 in
theorem walk_step (S : Nat → Bool) (nd0 : List Nd) (S' : Nat → Nat → Bool) (bd : Nat → Nat → Prop) (T : (Env → Bool) → Env → Bool) (k0 : Blk) (w0 : World) (M : FuncId) (caps : Array Value) (b1 b2 b3 b4 db n : Nat) (HM : Hid (MadeOK S nd0 S' bd T k0 w0 M caps)) (hW0 : WF nd0) (hcall : ∀ (xs : Array Value) (w : World), (callFunc M xs).run Try.prog w = .ok (.enter M xs) w) (IH : WalkAt S nd0 S' bd T k0 w0 M caps b1 b2 b3 b4 db n) : WalkAt S nd0 S' bd T k0 w0 M caps b1 b2 b3 b4 db (n + 1) := by
  intro f t F k s w N fd hfn d hA hex hT hE hD hAp hm hN
  obtain ⟨ex, hex⟩ := hex
  obtain ⟨fb, ft, H, I⟩ := hA
  have hnm := I.nm
  have hlen : nd0.length ≤ s.nd.length := by rw [hex, List.length_append]; omega
  have hfl : f < nd0.length := d.lt hW0
  have hrm := (room_mono (Nat.zero_le (nS S t))).1
  have k1 := cell_heap (j := 0) hE.c1 rfl
  have lk : (Instr.lookup 79 (.map (some db)) (.int .i32 f) true).run Try.prog w = .ok (.tuple #[.int .i32 ((fd f).getD 0), .bool (fd f).isSome]) w :=
    hE.done.look keyed3 Try.underlying79 Try.underlying21 (zero3 _) (key3 f (by omega) (by omega))
  cases hf : fd f with
  | some c =>
    obtain ⟨i, r, e1, rfl, hr, hg⟩ := hD.all _ _ hf
    have e1 : i = f := by omega
    subst e1
    rw [hf] at lk
    simp only [Option.getD_some, Option.isSome_some] at lk
    have HX := hide (show WalkOut S nd0 S' bd T k s w db N (nS S t) i (.returned (.int .i32 (r : Nat))) w from ⟨k, s, r, N, fd, rfl, ⟨fb, ft, H, I⟩, Up.refl _, by omega, by have := Nat.one_le_two_pow (n := nS S t); omega, TurnX.below (Below.refl _ w), hE.done, hD, hr, hg⟩)
    clear H I hE hD hT hAp IH d hg hex
    go_enter Try.func56, Try.ntmps56
    go_wp2_with fail
    go_ret
    exact HX.out
  | none =>
    have h2 : 2 ≤ f := by
      rcases (by omega : f = 0 ∨ f = 1 ∨ 2 ≤ f) with rfl | rfl | h
      · have := hD.d0; rw [show ((0 : Nat) : Int) = 0 from rfl] at hf; rw [hf] at this; cases this
      · have := hD.d1; rw [show ((1 : Nat) : Int) = 1 from rfl] at hf; rw [hf] at this; cases this
      · exact h
    obtain ⟨lo, hi, tl, th, Fl, Fh, hr, r1, r2, r3, r4, r5, r6, r7, dl, dh, rfl⟩ := d.row h2
    rw [hf] at lk
    simp only [Option.getD_none, Option.isSome_none] at lk
    have hx : s.nd[f]? = some (t, lo, hi) := by rw [hex, List.getElem?_append_left hfl]; exact hr
    obtain ⟨n0, n1, n2⟩ := H.node hx
    have c2 := H.c2
    have kk2 := cell_heap (j := 0) hE.c2 rfl
    have hfi : (f : Int) < s.nd.length := by omega
    -- the room
    obtain ⟨m, hmS⟩ : ∃ m, m = nS S (t + 1) := ⟨_, rfl⟩
    have hst := nS_step S r6
    rw [r7, if_pos rfl, ← hmS, Nat.add_comm] at hst
    have ml := nS_le S (show t + 1 ≤ tl by omega)
    have mh := nS_le S (show t + 1 ≤ th by omega)
    rw [← hmS] at ml mh
    obtain ⟨q1, q2, q3⟩ := walk_room (a := 0) (n := m)
    rw [hst] at hm hN ⊢
    rw [q1] at hm
    rw [q2] at hN
    have ql := room_mono ml
    have qh := room_mono mh
    have HQ1 := hide q1
    have HQ2 := hide q2
    have HMS := hide hmS
    have HST := hide hst
    generalize hP : 2 ^ (m + 1 + 2) = P at hm
    generalize hR : m * 2 ^ (m + 2) = R at hm ql qh
    generalize hE2 : 2 ^ m = E2 at hN ql qh q3
    have HP := hide hP
    have HR := hide hR
    have HE2 := hide hE2
    -- what the walk holds
    have hbl := bel_one w (.cells #[.int .i32 t, .int .i32 lo, .int .i32 hi] 58)
    obtain ⟨E1, A1⟩ := hE.t hAp (Turn.below (k := k) hbl)
    have z0 := heap_new w (.cells #[.int .i32 t, .int .i32 lo, .int .i32 hi] 58)
    have hA1 : Ar (w.alloc (.cells #[.int .i32 t, .int .i32 lo, .int .i32 hi] 58)) k s := ⟨fb, ft, H.below hbl, I⟩
    have T1 := hT.trans (Turn.below (k := k) hbl)
    have hnf : ¬ fp k w.heap.size := fun hf => by have := H.lt _ hf; omega
    have hnd : w.heap.size ≠ db := by have := hE.done.lt; omega
    have hdb := hAp.l1
    have HC1 := hide (IH lo tl Fl k s _ N fd (by omega) dl hA1 ⟨ex, hex⟩ T1 E1 hD A1 (by omega) (by omega))
    have kk3 := cell_heap (j := 0) E1.c3 rfl
    have HXB := hide (TurnX.below (d := db) (k := k) hbl)
    have HZ0 := hide z0
    have HE1 := hide E1
    have HA1 := hide A1
    have HT1 := hide T1
    have HIH := hide IH
    have HDD := hide (And.intro d (And.intro dl dh))
    have HEX := hide hex
    have y1 := cell_heap (j := 1) z0 rfl
    clear E1 A1 hA1 T1 hE hAp hT hD z0 hbl IH d dl dh hex hmS hst q1 q2 hP hR hE2 hx
    go_enter Try.func56, Try.ntmps56
    go_wp2_with fail
    refine HC1.out.mono ?_
    intro e w2 hh
    unfold WalkOut at hh
    obtain ⟨k2, s2, x1, N2, fd2, rfl, hA2, hU2, hm2, hN2, hX2, hd2, hD2, hr2, hg2⟩ := hh
    obtain ⟨E2', A2⟩ := HE1.out.x HA1.out hX2 hd2
    have z2 := hX2.heap HZ0.out hnf hnd
    have hf2 := hX2.fpn (lt_heap HZ0.out) hnf
    have T2 := hX2.turn HT1.out hdb
    have hlen2 := hU2.len
    obtain ⟨ex2, hex2⟩ := hU2.nd
    have hex2' : ∃ ex, s2.nd = nd0 ++ ex := ⟨ex ++ ex2, by rw [hex2, HEX.out, List.append_assoc]⟩
    have hdr := (Below.refl w2.heap.size w2).drew
    have a2d := hA2.below hdr
    obtain ⟨E2d, A2d⟩ := E2'.t A2 (Turn.below (k := k2) hdr)
    have T2d := T2.trans (Turn.below (k := k2) hdr)
    have HC2 := hide (HIH.out hi th Fh k2 s2 _ N2 fd2 (by omega) HDD.out.2.2 a2d hex2' T2d (by rw [hX2.p]; exact E2d) hD2 A2d (by omega) (by omega))
    have hk2 : w2.drew.cell? ⟨b4, 0, none⟩ = some (.func (.func M) #[] caps) ∧ w2.drew.cell? ⟨w.heap.size, 0, none⟩ = some (.int .i32 t) ∧ w2.drew.cell? ⟨b3, 0, none⟩ = some (.func (.func 56) #[] #[.pointer (some ⟨b1, 0, none⟩), .pointer (some ⟨b2, 0, none⟩), .pointer (some ⟨b3, 0, none⟩), .pointer (some ⟨b4, 0, none⟩)]) ∧ w2.drew.cell? ⟨w.heap.size, 2, none⟩ = some (.int .i32 hi) := ⟨cell_heap E2'.c4 rfl, cell_heap z2 rfl, cell_heap E2'.c3 rfl, cell_heap z2 rfl⟩
    clear n0 n1 n2 c2 k1 kk2 lk kk3 y1
    go_wp2_with fail
    have hX2d := hX2.trans (TurnX.below (d := db) (k := k2) hdr)
    have HX2 := hide hX2d
    have HU2 := hide hU2
    have HM2 := hide hm2
    have HN2 := hide hN2
    have HG2 := hide hg2
    have HHd := hide hr
    have HF2 := hide hf2
    have HA2d := hide A2d
    have HE2d := hide E2d
    have HT2d := hide T2d
    have HX2p := hide hX2.p
    have HLE := hide hex2'
    have Hz2 := hide (show w2.drew.heap[w.heap.size]? = some _ from z2)
    clear hA2 hX2 hm2 hN2 hU2 hd2 hD2 hg2 E2' A2 z2 T2 hex2 hex2' a2d E2d A2d T2d hX2d HC1 hr hf2
    have HB : Hid (∀ a3 : Nat, s2.m ≤ s.m + nS S tl * 2 ^ (nS S tl + 2) → a3 ≤ s2.m + nS S th * 2 ^ (nS S th + 2) → a3 + 2 ^ (nS S t + 2) ≤ 1000000000) := by
      intro a3 h1 h2
      rw [HST.out, HP.out]
      omega
    have hwd : w.heap.size < w2.drew.heap.size := lt_heap Hz2.out
    go_region_held3 (fun w' => w'.cell? ⟨b4, 0, none⟩ = some (.func (.func M) #[] caps) ∧ w'.cell? ⟨w.heap.size, 0, none⟩ = some (.int .i32 t) ∧ w'.cell? ⟨b3, 0, none⟩ = some (.func (.func 56) #[] #[.pointer (some ⟨b1, 0, none⟩), .pointer (some ⟨b2, 0, none⟩), .pointer (some ⟨b3, 0, none⟩), .pointer (some ⟨b4, 0, none⟩)]) ∧ w'.cell? ⟨w.heap.size, 2, none⟩ = some (.int .i32 hi))
      (first | exact hk2 | exact hk3 | exact hk4)
      (first
        | (go_at_call 56; (with_reducible refine HC2.out.mono ?_); intro e w3 hh; unfold WalkOut at hh; obtain ⟨k3, s3, x2, N3, fd3, he, hA3, hU3, hm3, hN3, hX3, hd3, hD3, hr3, hg3⟩ := hh; subst he; obtain ⟨E3', A3⟩ := HE2d.out.x HA2d.out hX3 hd3; have z3 := hX3.heap Hz2.out HF2.out hnd; have hf3 := hX3.fpn hwd HF2.out; have hk3 := And.intro (cell_heap (j := 0) E3'.c4 rfl) (And.intro (cell_heap (j := 0) z3 rfl) (And.intro (cell_heap (j := 0) E3'.c3 rfl) (cell_heap (j := 2) z3 rfl))); have HA3 := hide hA3; have HU3 := hide hU3; have HX3 := hide hX3; have HM3 := hide hm3; have HN3 := hide hN3; have HE3 := hide E3'; have HAp3 := hide A3; have HD3 := hide hD3; have HG3 := hide hg3; have HR3 := hide hr3; have HZ3 := hide z3; have HF3 := hide hf3; clear hA3 hU3 hX3 hm3 hN3 E3' A3 hD3 hg3 hr3 z3 hf3 hd3)
        | ((with_reducible refine (made_call HM.out HA3.out HU3.out HLE.out HX3.out HT2d.out hdb HG2.out HG3.out HDD.out.2.1 HDD.out.2.2 r4 r5 r6 r7 (HB.out _ HM2.out HM3.out)).mono ?_); intro e w4 hh; unfold NodeOut at hh; obtain ⟨k4, s4, r, he, hA4, hT4, hU4, hm4, hg4⟩ := hh; subst he; obtain ⟨E4', A4⟩ := HE3.out.t HAp3.out hT4; have z4 := hT4.heap HZ3.out HF3.out; have hf4 := hT4.fpn (lt_heap HZ3.out) HF3.out; have hk4 := And.intro (cell_heap (j := 0) E4'.c4 rfl) (And.intro (cell_heap (j := 0) z4 rfl) (And.intro (cell_heap (j := 0) E4'.c3 rfl) (cell_heap (j := 2) z4 rfl))); have HA4 := hide hA4; have HU4 := hide hU4; have HT4 := hide hT4; have HM4 := hide hm4; have HG4 := hide hg4; have HE4 := hide E4'; have HAp4 := hide A4; clear hA4 hU4 hT4 hm4 hg4 E4' A4 z4 hf4))
    all_goals (
      have k41 := cell_heap (j := 0) HE4.out.c1 rfl
      have hrl : r < s4.nd.length := by
        obtain ⟨t', _, d'⟩ := HG4.out
        exact d'.lt HA4.out.wf
      have hnm4 := HA4.out.nm
      have hN3 := HN3.out
      have hN2 := HN2.out
      have hm3 := HM3.out
      have hm2 := HM2.out
      have hm4 := HM4.out
      have hU := hide ((HU2.out.trans HU3.out).trans HU4.out)
      have hPx := HP.out
      have hQ2 := HQ2.out
      have hE2x := HE2.out
      have hrg : GoodAt S nd0 S' bd T s4.nd f r := by
        intro t' F' d'
        obtain ⟨rfl, rfl⟩ := HDD.out.1.det d'
        exact HG4.out
      have hmM : s4.m ≤ s.m + (m + 1) * 2 ^ (m + 1 + 2) := by
        rw [HQ1.out, HR.out, HP.out]
        rw [HST.out, HP.out] at hm4
        omega
      have hNN : N3 + 1 + 1 ≤ N + 2 ^ (m + 1) := by rw [hQ2, hE2x]; omega
      have hNb : N3 < maxLen := by unfold maxLen; omega
      have hm10 : s4.m ≤ 1000000000 := by rw [HST.out, HP.out] at hm4; omega
      have hwf : (Lit.int .i32 r).wf = true := wf3 (by omega) (by omega)
      have hk3f := key3 (f : Int) (by omega) (by omega)
      have hD4 := hide ((HD3.out.up HU4.out).put h2 hrl hrg)
      have HRG := hide hrg
      have HMM := hide hmM
      have HNN := hide hNN
      clear hmM hNN hrg hm4 hm2 hm3 hN3 hN2 hPx hQ2 hE2x hk2 hk3 hk4
      go_wp2_with (at_mapUpdate; go_must (refine wpList_put rfl (.tmp 40) (.tmp 41) (.tmp 42) rfl HE4.out.done keyed3 Try.underlying79 Try.underlying21 hNb enc3_inj rfl (f : Int) _ rfl hk3f r rfl hwf ?_))
      intro w5 hmi hmt
      have HX := hide (show WalkOut S nd0 S' bd T k s w db N (m + 1) f (.returned (.int .i32 (r : Nat))) w5 from
        ⟨k4, s4, r, N3 + 1, _, rfl, hA4x HA4.out HE4.out HAp4.out hmt, hU.out, HMM.out, HNN.out, ((HXB.out.trans HX2.out).trans HX3.out).trans ((HT4.out.x db).trans (TurnX.map hmt)), hmi, hD4.out, hrl, HRG.out⟩)
      clear hmi hmt
      go_wp2_with fail
      go_ret
      exact HX.out)
end Go.Proofs.Ytgfjdkkfgclhjaa.Bd
