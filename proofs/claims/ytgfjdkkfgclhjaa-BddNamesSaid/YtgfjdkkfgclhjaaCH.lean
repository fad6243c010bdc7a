/- Count: the walk, a node that was not met yet. -/
import Derived.Test.YtgfjdkkfgclhjaaCG
namespace Go.Proofs.Ytgfjdkkfgclhjaa.Bd
open Go.RowKit Go.Proofs.Ytgfjdkkfgclhjaa Go.Proofs.Ytgfjdkkfgclhjaa.Lx Go.Maps

/-- one half: its number and what it is -/
structure Half (S : Nat → Bool) (nd : List Nd) (ov : List Nat) (t E2 n g tg δ : Nat) (G : Env → Bool) : Prop where
  d : Den S nd g tg G
  lt : g < n
  h : t < tg
  e : nS S tg ≤ E2
  p : plc ov tg = plc ov t + 1 + δ
  q : δ < 128
theorem half_val {ov : List Nat} {tg : Nat} {G : Env → Bool} {δ : Nat} (h : cntL G (fromL ov tg) z0 * 2 ^ δ < 340282366920938463463374607431768211456) : ok2 (cntN ov tg G) ∧ val (cntN ov tg G) * 2 ^ δ < 340282366920938463463374607431768211456 ∧ ofN (val (cntN ov tg G) * 2 ^ δ) = ofN (cntL G (fromL ov tg) z0 * 2 ^ δ) := by
  have h1 : cntL G (fromL ov tg) z0 < 340282366920938463463374607431768211456 := Nat.lt_of_le_of_lt (Nat.le_mul_of_pos_right _ (Nat.two_pow_pos δ)) h
  unfold cntN
  rw [ofN_val]
  exact ⟨ofN_ok h1, h, rfl⟩
theorem ne_old {w : World} {g z : Nat} {o : Obj} (h : w.heap[g]? = some o) (hz : w.heap.size ≤ z) : g ≠ z := by
  have := lt_heap h
  omega
theorem ne_of_lt_le {a b c : Nat} (h : a < b) (h2 : b ≤ c) : a ≠ c := by omega
theorem wrap_small {x : Int} (h : -1000 ≤ x) (h2 : x ≤ 1000) : IntKind.i64.wrap x = x := IntWalk.i64_in _ (by omega)

def accX (X1 X2 i : Nat) : Nat := if i = 0 then 0 else if i = 1 then X1 else X1 + X2
theorem round_data {S : Nat → Bool} {k : Blk} {s : St} {w0 w wr : World} {A : Option Addr} {c : Nat} {ov : List Nat} {b1 b2 b3 b4 b5 db sb N m lo hi X1 X2 i n t tl th δ1 δ2 N' : Nat} {Fl Fh : Env → Bool} {fd' : Int → Option Cn} (h1 : Half S s.nd ov t m n lo tl δ1 Fl) (h2 : Half S s.nd ov t m n hi th δ2 Fh)
    (q1 : ok2 (cntN ov tl Fl) ∧ val (cntN ov tl Fl) * 2 ^ δ1 < 340282366920938463463374607431768211456 ∧ ofN (val (cntN ov tl Fl) * 2 ^ δ1) = ofN X1) (q2 : ok2 (cntN ov th Fh) ∧ val (cntN ov th Fh) * 2 ^ δ2 < 340282366920938463463374607431768211456 ∧ ofN (val (cntN ov th Fh) * 2 ^ δ2) = ofN X2) (hi2 : i < 2) (C : Cr S k s w0 w wr A c ov b1 b2 b3 b4 b5 db sb N (2 ^ m) lo hi (accX X1 X2 i) i N' fd') (hN : N + 2 * 2 ^ m ≤ 2000000000) :
    ∃ (g tg δ Y : Nat) (G : Env → Bool), Half S s.nd ov t m n g tg δ G ∧ (ok2 (cntN ov tg G) ∧ val (cntN ov tg G) * 2 ^ δ < 340282366920938463463374607431768211456 ∧ ofN (val (cntN ov tg G) * 2 ^ δ) = ofN Y) ∧ accX X1 X2 (i + 1) = accX X1 X2 i + Y ∧ wr.cell? ⟨sb, i, none⟩ = some (.int .i32 g) ∧ N' + 2 ^ nS S tg ≤ 2000000000 ∧ ∀ N'', N'' + 1 ≤ N' + 2 ^ nS S tg → N'' + (i + 1) ≤ N + (i + 1) * 2 ^ m := by
  have hn := C.n
  rcases (by omega : i = 0 ∨ i = 1) with rfl | rfl
  · have hp : 2 ^ nS S tl ≤ 2 ^ m := Nat.pow_le_pow_right (by omega) h1.e
    exact ⟨lo, tl, δ1, X1, Fl, h1, q1, by simp [accX], cell_heap C.two rfl, by omega, fun N'' h => by omega⟩
  · have hp : 2 ^ nS S th ≤ 2 ^ m := Nat.pow_le_pow_right (by omega) h2.e
    exact ⟨hi, th, δ2, X2, Fh, h2, q2, by simp [accX], cell_heap C.two rfl, by omega, fun N'' h => by omega⟩
set_option maxHeartbeats 8000000 in
set_option maxRecDepth 100000 in
theorem count_step (S : Nat → Bool) (k : Blk) (s : St) (w0 : World) (A : Option Addr) (c : Nat) (ov : List Nat) (b1 b2 b3 b4 b5 db n : Nat) (H : CntHyp S k s w0 A c ov) (hlow : w0.heap.size ≤ db) (IH : CntAt S k s w0 A c ov b1 b2 b3 b4 b5 db n) : CntAt S k s w0 A c ov b1 b2 b3 b4 b5 db (n + 1) := by
  intro f t F w N fd hfn d hB hE hD hN
  cases hf : fd f with
  | some cc => exact count_done S k s w0 A c ov b1 b2 b3 b4 b5 db H f t F w N fd d hE hD cc hf
  | none =>
  have hW := H.hA.wf
  have hnm := H.hA.nm
  have hfl := d.lt hW
  have hm := H.hm
  have h2 : 2 ≤ f := by
    rcases (by omega : f = 0 ∨ f = 1 ∨ 2 ≤ f) with rfl | rfl | h
    · have := hD.d0; rw [show ((0 : Nat) : Int) = 0 from rfl] at hf; rw [hf] at this; cases this
    · have := hD.d1; rw [show ((1 : Nat) : Int) = 1 from rfl] at hf; rw [hf] at this; cases this
    · exact h
  obtain ⟨lo, hi, tl, th, Fl, Fh, hr, r1, r2, r3, r4, r5, r6, r7, dl, dh, rfl⟩ := d.row h2
  have hto := H.hin t r7
  have hA := H.hA.below hB
  -- the room
  obtain ⟨m, hmS⟩ : ∃ m, m = nS S (t + 1) := ⟨_, rfl⟩
  have hst := nS_step S r6
  rw [r7, if_pos rfl, ← hmS, Nat.add_comm] at hst
  have ml := nS_le S (show t + 1 ≤ tl by omega)
  have mh := nS_le S (show t + 1 ≤ th by omega)
  rw [← hmS] at ml mh
  rw [hst] at hN ⊢
  have hE2 : 2 ^ (m + 1) = 2 * 2 ^ m := by rw [Nat.pow_succ]; omega
  have hE3 := Nat.one_le_two_pow (n := m)
  -- the halves' numbers
  have pl1 := plc_mono ov (show t + 1 ≤ tl by omega)
  have pl2 := plc_mono ov (show t + 1 ≤ th by omega)
  rw [plc_at H.hov hto] at pl1 pl2
  have ple1 := plc_le ov tl
  have ple2 := plc_le ov th
  have hn127 := H.hn
  have Hlo : Half S s.nd ov t m n lo tl (plc ov tl - plc ov t - 1) Fl := ⟨dl, by omega, r4, ml, by omega, by omega⟩
  have Hhi : Half S s.nd ov t m n hi th (plc ov th - plc ov t - 1) Fh := ⟨dh, by omega, r5, mh, by omega, by omega⟩
  have hcn := cnt_node H.hov hto r4 r5 (fun v hv ρ b => dl.free hv ρ b) (fun v hv ρ b => dh.free hv ρ b) z0
  have hclt := (cnt_lt (ov := ov) (fun ρ => if ρ t then Fh ρ else Fl ρ) t z0 H.hn).1
  have hc1 : cntL (fun ρ => if ρ t then Fh ρ else Fl ρ) (fromL ov t) z0 < 340282366920938463463374607431768211456 := Nat.lt_of_le_of_lt (Nat.le_mul_of_pos_right _ (Nat.two_pow_pos _)) hclt
  rw [hcn] at hc1
  generalize hδ1 : plc ov tl - plc ov t - 1 = δ1 at *
  generalize hδ2 : plc ov th - plc ov t - 1 = δ2 at *
  generalize hX1 : cntL Fl (fromL ov tl) z0 * 2 ^ δ1 = X1 at *
  generalize hX2 : cntL Fh (fromL ov th) z0 * 2 ^ δ2 = X2 at *
  have hcN : cntN ov t (fun ρ => if ρ t then Fh ρ else Fl ρ) = ofN (X1 + X2) := by unfold cntN; rw [hcn]
  have hall : ∀ t' F', Den S s.nd f t' F' → ofN (X1 + X2) = cntN ov t' F' := by
    intro t' F' d'
    obtain ⟨rfl, rfl⟩ := d.det d'
    exact hcN.symm
  rw [hcN]
  have HQ1 := hide (half_val (show cntL Fl (fromL ov tl) z0 * 2 ^ δ1 < _ from by rw [hX1]; omega))
  have HQ2 := hide (half_val (show cntL Fh (fromL ov th) z0 * 2 ^ δ2 < _ from by rw [hX2]; omega))
  rw [hX1] at HQ1
  rw [hX2] at HQ2
  -- memory
  obtain ⟨x0, x1, x2, hb3, hs3⟩ := three_boxes w #[.int .u64 0, .int .u64 0] #[.int .u64 0, .int .u64 0] #[.int .u64 0, .int .u64 0] 34 34 34
  have hb1 := bel_one w (.cells #[.int .u64 0, .int .u64 0] 34)
  have hE1 := hE.below hb1
  have k1 := cell_heap (j := 0) hE1.c1 rfl
  have lk := hE1.done.look keyed3 Try.underlying70 (zeroC _) (key3 f (by omega) (by omega))
  rw [hf] at lk
  simp only [Option.getD_none, Option.isSome_none] at lk
  unfold enc3 cEl at lk
  have lk2 : (Instr.lookup 70 (.map (some db)) (.int .i32 f) true).run Try.prog (w.alloc (.cells #[.int .u64 0, .int .u64 0] 34)) = .ok (.tuple #[.agg #[.int .u64 0, .int .u64 0], .bool false]) (w.alloc (.cells #[.int .u64 0, .int .u64 0] 34)) := lk
  clear lk
  have HB3 := hide (And.intro x0 (And.intro x2 (And.intro hb3 hs3)))
  have HE := hide hE
  have HD := hide hD
  have HB := hide hB
  have HH := hide H
  have HIH := hide IH
  have HLO := hide Hlo
  have HHI := hide Hhi
  have HALL := hide hall
  have HRW := hide hr
  have HA0 := hide (And.intro hto d)
  have hcl : 0 < 2 := by omega
  clear hE hD hB H IH Hlo Hhi hall hr d dl dh hA hE1 hb1 hb3 x0 x1 x2 hs3 hcn hclt hδ1 hδ2 hX1 hX2 hcN hf hmS hst
  go_enter Try.func32, Try.ntmps32
  go_wp2_with fail
  generalize ((w.alloc (.cells #[.int .u64 0, .int .u64 0] 34)).alloc (.cells #[.int .u64 0, .int .u64 0] 34)).alloc (.cells #[.int .u64 0, .int .u64 0] 34) = w3 at *
  have HC3 := hide (HE.out.below HB3.out.2.2.1)
  have HB30 := hide (HB.out.trans (HB3.out.2.2.1.mono HB.out.size))
  have q1 : (f : Int) < s.nd.length := by omega
  have HS : Hid (∀ w', Below w3.heap.size w3 w' → w'.cell? ⟨b2, 0, none⟩ = some (.pointer (some ⟨k.p, 0, none⟩)) ∧ w'.cell? ⟨k.p, 2, none⟩ = some (.slice (some ⟨k.g, 0, none⟩) s.nd.length k.c) ∧ w'.cell? ⟨k.g, f * 3 + 1, none⟩ = some (.int .i32 lo) ∧ w'.cell? ⟨k.g, f * 3 + 2, none⟩ = some (.int .i32 hi)) := by
    intro w' hb
    obtain ⟨_, _, Hp, _⟩ := HH.out.hA.below (HB30.out.trans (hb.mono HB30.out.size))
    exact ⟨cell_heap (heapB hb HC3.out.c2) rfl, Hp.c2, (Hp.node HRW.out).2.1, (Hp.node HRW.out).2.2⟩
  clear k1 lk2
  go_region_held3 (fun w' => w'.cell? ⟨b2, 0, none⟩ = some (.pointer (some ⟨k.p, 0, none⟩)) ∧ w'.cell? ⟨k.p, 2, none⟩ = some (.slice (some ⟨k.g, 0, none⟩) s.nd.length k.c) ∧ w'.cell? ⟨k.g, f * 3 + 1, none⟩ = some (.int .i32 lo) ∧ w'.cell? ⟨k.g, f * 3 + 2, none⟩ = some (.int .i32 hi))
    (first | exact HS.out _ (Below.drew (Below.refl _ w3)) | exact HS.out _ (Below.alloc (Below.drew (Below.refl _ w3)) (Nat.le_refl _) _) | exact HS.out _ (Below.drew (Below.alloc (Below.refl _ w3) (Nat.le_refl _) _)) | exact HS.out _ (Below.setCell (Below.alloc (Below.drew (Below.refl _ w3)) (Nat.le_refl _) _) (Nat.le_refl _) _) | exact HS.out _ (Below.setCell (Below.drew (Below.alloc (Below.refl _ w3) (Nat.le_refl _) _)) (Nat.le_refl _) _))
    (fail)
  all_goals (
    go_wp2_with fail
    have hcs := hide (show Cr S k s w0 w (w3.alloc (.cells #[.int .i32 lo, .int .i32 hi] 21)).drew A c ov b1 b2 b3 b4 b5 db w3.heap.size N (2 ^ m) lo hi 0 0 N fd from by
      have hb := (bel_one w3 (.cells #[.int .i32 lo, .int .i32 hi] 21)).drew
      have hb2 := below_wide HB3.out.2.2.1 hb
      exact ⟨below_grown hb2 _, HB.out.trans (hb2.mono HB.out.size), heapB hb HB3.out.1, heapB hb HB3.out.2.1, heap_new _ _, HE.out.below hb2, HD.out, by omega⟩)
    generalize (w3.alloc (.cells #[.int .i32 lo, .int .i32 hi] 21)).drew = w4 at *
    go_loopw [11, 12, 13, 14, 41] (fun _ _ _ _ j wr => ∃ (i N' : Nat) (fd' : Int → Option Cn), j = .int .i64 i ∧ i ≤ 2 ∧ Cr S k s w0 w wr A c ov b1 b2 b3 b4 b5 db w3.heap.size N (2 ^ m) lo hi (accX X1 X2 i) i N' fd') (fun _ _ _ _ j _ => 2 - (intOf j).toNat)
    case atStart => exact ⟨0, N, fd, rfl, by omega, hcs.out⟩
    case round =>
      obtain ⟨i, N', fd', rfl, hi2, hC⟩ := hrel
      rcases Nat.lt_or_ge i 2 with hlt | hge
      · have d1 : decide ((i : Int) < 2) = true := by simp; omega
        have d2 : ((i : Int) < 2) := by omega
        obtain ⟨g, tg, δ, Y, G, hH, hQ, hacc, hcell, hNN, hNx⟩ := round_data HLO.out HHI.out HQ1.out HQ2.out hlt hC (show N + 2 * 2 ^ m ≤ 2000000000 by omega)
        have HC := hide hC
        have HQ := hide hQ
        have HHA := hide hH
        have HNX := hide hNx
        have HAC := hide hacc
        have hB4 := hC.b.drew
        have hE4 := hC.E.below ((Below.refl wr.heap.size wr).drew)
        have hdbl : db < wr.heap.size := hC.E.done.lt
        have HWK := hide (fun (w' : World) (hb : Below wr.drew.heap.size wr.drew w') => HIH.out g tg G w' N' fd' hH.lt hH.d (hB4.trans (hb.mono hB4.size)) (hE4.below hb) hC.D hNN)
        have hk4 : wr.drew.cell? ⟨b3, 0, none⟩ = some (.func (.func 32) #[] #[.pointer (some ⟨b1, 0, none⟩), .pointer (some ⟨b2, 0, none⟩), .pointer (some ⟨b3, 0, none⟩), .pointer (some ⟨b4, 0, none⟩)]) ∧ wr.drew.cell? ⟨b4, 0, none⟩ = some (.func (.func 30) #[] #[.pointer (some ⟨b5, 0, none⟩), .pointer (some ⟨b2, 0, none⟩)]) := ⟨cell_heap hE4.c3 rfl, cell_heap hE4.c4 rfl⟩
        have HPL : Hid (∀ (x tx : Nat) (GG : Env → Bool) (w' : World), Den S s.nd x tx GG → Below w0.heap.size w0 w' → w'.cell? ⟨b5, 0, none⟩ = some (.slice A ov.length c) → w'.cell? ⟨b2, 0, none⟩ = some (.pointer (some ⟨k.p, 0, none⟩)) → Calls Try.prog 30 #[.int .i32 x, .pointer (some ⟨b5, 0, none⟩), .pointer (some ⟨b2, 0, none⟩)] w' fun e w'' => e = .returned (.int .i64 (plc ov tx)) ∧ Below w'.heap.size w' w'') := fun x tx GG w' dx hb h5 h3 => place_any S k s x tx GG A c ov b5 b2 w' (HH.out.hA.below hb) dx HH.out.hov HH.out.hall (fun h2 => HH.out.hin _ (dx.first (by
          obtain ⟨_, _, _, _, _, _, _, _, _, _, _, _, h, _⟩ := dx.row h2
          exact h))) (Src.below HH.out.hS hb) HH.out.hn h5 h3 HH.out.hm
        have hpg := hH.p
        have hδ := hH.q
        have hplt := plc_le ov t
        have hplg := plc_le ov tg
        generalize hpt : plc ov t = pt at *
        generalize hpgv : plc ov tg = pg at *
        have HPT := hide hpt
        have HPG := hide hpgv
        obtain ⟨δ', hδ'⟩ : ∃ δ' : Nat, δ' = δ + 1 := ⟨_, rfl⟩
        have hw1 : IntKind.i64.wrap ((pg : Int) - pt) = (δ' : Int) := by rw [wrap_small (by omega) (by omega)]; omega
        have hw2 : IntKind.i64.wrap ((δ' : Int) - 1) = (δ : Int) := by rw [wrap_small (by omega) (by omega)]; omega
        have HTM := hide (fun w' => times_any (cntN ov tg G) δ w' hQ.1 hQ.2.1 hδ)
        rw [hQ.2.2] at HTM
        unfold cEl at HTM
        have HK4 := hide (fun (w' : World) (hb : Below wr.drew.heap.size wr.drew w') => And.intro (cell_heap (j := 0) (hE4.below hb).c3 rfl) (cell_heap (j := 0) (hE4.below hb).c4 rfl))
        have HPLg := hide (fun w' hb h5 h3 => HPL.out g tg G w' HHA.out.d hb h5 h3)
        have HPLf := hide (fun w' hb h5 h3 => HPL.out f t _ w' HA0.out.2 hb h5 h3)
        rw [HPG.out] at HPLg
        rw [HPT.out] at HPLf
        have HB4 := hide hB4
        have HE4 := hide hE4
        clear hC hB4 hE4 hQ hNx hacc hpt hpgv hδ' hH HPL hpg
        go_wp2_with fail
        go_region_held3 (fun w' => w'.cell? ⟨b3, 0, none⟩ = some (.func (.func 32) #[] #[.pointer (some ⟨b1, 0, none⟩), .pointer (some ⟨b2, 0, none⟩), .pointer (some ⟨b3, 0, none⟩), .pointer (some ⟨b4, 0, none⟩)]) ∧ w'.cell? ⟨b4, 0, none⟩ = some (.func (.func 30) #[] #[.pointer (some ⟨b5, 0, none⟩), .pointer (some ⟨b2, 0, none⟩)]))
          (first | exact hk4 | exact HK4.out _ (bel_one _ _) | exact HK5.out _ (Below.refl _ _) | exact HK5.out _ (bel_one _ _) | exact HK6.out _ (Below.refl _ _) | exact HK6.out _ (bel_one _ _) | exact HK7.out _ (Below.refl _ _) | exact HK7.out _ (bel_one _ _) | exact HK8.out _ (Below.refl _ _) | exact HK8.out _ (bel_one _ _) | exact HK9.out _ | exact HK10.out _ _)
          (first
            | (go_at_call 32; first | ((with_reducible refine (HWK.out _ (Below.refl _ _)).mono ?_); intro e w5 hh; unfold CntOut at hh; obtain ⟨N2, fd2, he, hg2, hn2, hm2, hD2⟩ := hh; unfold cEl at he; subst he; have hgz := hg2; have hgw := hg2; have HZT5 := hide (fun (z : Nat) (h : Zed wr _ z) => h.grown hgz hdbl); have HE5 := hide (HE4.out.kept hgw hm2); have HB5 := hide (HB4.out.grown hgw HB4.out.size (fun b e => by injection e with e; omega)); have HK5 := hide (fun (w' : World) (hb : Below w5.heap.size w5 w') => And.intro (cell_heap (j := 0) (HE5.out.below hb).c3 rfl) (cell_heap (j := 0) (HE5.out.below hb).c4 rfl)); have HPg5 := hide (fun (w' : World) (hb : Below w5.heap.size w5 w') => HPLg.out w' (HB5.out.trans (hb.mono HB5.out.size)) (cell_heap (HE5.out.below hb).c5 rfl) (cell_heap (HE5.out.below hb).c2 rfl)); have HG2 := hide hgw; have HN2 := hide hn2; have HD2 := hide hD2; have HM2 := hide hm2; have hs5 := hgw.size; clear hg2 hgz hgw hn2 hm2 hD2) | ((with_reducible refine (HWK.out _ (bel_drew _ _)).mono ?_); intro e w5 hh; unfold CntOut at hh; obtain ⟨N2, fd2, he, hg2, hn2, hm2, hD2⟩ := hh; unfold cEl at he; subst he; have hgz := hg2; have hgw := gb_trans (below_grown (bel_drew wr _) _) hg2; have HZT5 := hide (fun (z : Nat) (h : Zed wr _ z) => h.grown hgz hdbl); have HE5 := hide (HE4.out.kept hgw hm2); have HB5 := hide (HB4.out.grown hgw HB4.out.size (fun b e => by injection e with e; omega)); have HK5 := hide (fun (w' : World) (hb : Below w5.heap.size w5 w') => And.intro (cell_heap (j := 0) (HE5.out.below hb).c3 rfl) (cell_heap (j := 0) (HE5.out.below hb).c4 rfl)); have HPg5 := hide (fun (w' : World) (hb : Below w5.heap.size w5 w') => HPLg.out w' (HB5.out.trans (hb.mono HB5.out.size)) (cell_heap (HE5.out.below hb).c5 rfl) (cell_heap (HE5.out.below hb).c2 rfl)); have HG2 := hide hgw; have HN2 := hide hn2; have HD2 := hide hD2; have HM2 := hide hm2; have hs5 := hgw.size; clear hg2 hgz hgw hn2 hm2 hD2))
            | (go_at_call 30; (first | (with_reducible refine (HPg5.out _ (Below.refl _ _)).mono ?_) | (with_reducible refine (HPg5.out _ (bel_one _ _)).mono ?_)); rintro e w6 ⟨rfl, hb6⟩; (first | have hq6 := pu0 (wr := wr) (w := w5) hb6 | have hq6 := pu1 (wr := wr) (w := w5) hb6); have hb56 := hq6.1; have HB6 := hide hb56; have HZT6 := hide hq6.2; have HE6 := hide (HE5.out.below hq6.1); have HK6 := hide (fun (w' : World) (hb : Below w6.heap.size w6 w') => And.intro (cell_heap (j := 0) (HE6.out.below hb).c3 rfl) (cell_heap (j := 0) (HE6.out.below hb).c4 rfl)); have HPf6 := hide (fun (w' : World) (hb : Below w6.heap.size w6 w') => HPLf.out w' (HB5.out.trans ((below_wide HB6.out hb).mono HB5.out.size)) (cell_heap (HE6.out.below hb).c5 rfl) (cell_heap (HE6.out.below hb).c2 rfl)); have hs6 := hq6.1.size; clear hb6 hq6 hb56)
            | (go_at_call 30; (first | (with_reducible refine (HPf6.out _ (Below.refl _ _)).mono ?_) | (with_reducible refine (HPf6.out _ (bel_one _ _)).mono ?_)); rintro e w7 ⟨rfl, hb7⟩; (first | have hq7 := pu0 (wr := wr) (w := w6) hb7 | have hq7 := pu1 (wr := wr) (w := w6) hb7); have hb57 := below_wide HB6.out hq7.1; have HB7 := hide hb57; have HZT7 := hide hq7.2; have HE7 := hide (HE6.out.below hq7.1); have HK7 := hide (fun (w' : World) (hb : Below w7.heap.size w7 w') => And.intro (cell_heap (j := 0) (HE7.out.below hb).c3 rfl) (cell_heap (j := 0) (HE7.out.below hb).c4 rfl)); have hs7 := hq7.1.size; clear hb7 hq7 hb57)
            | (go_at_call 33; (with_reducible refine (HTM.out _).mono ?_); rintro e w8 ⟨rfl, hb8⟩; (first | have hq8 := pu0 (wr := wr) (w := w7) hb8 | have hq8 := pu1 (wr := wr) (w := w7) hb8); have hb58 := below_wide HB7.out hq8.1; have HB8 := hide hb58; have HZT8 := hide hq8.2; have HE8 := hide (HE7.out.below hq8.1); have HK8 := hide (fun (w' : World) (hb : Below w8.heap.size w8 w') => And.intro (cell_heap (j := 0) (HE8.out.below hb).c3 rfl) (cell_heap (j := 0) (HE8.out.below hb).c4 rfl)); have hs8 := hq8.1.size; clear hb8 hq8 hb58; (first | (have hz8 := HZT8.out _ (HZT7.out _ (HZT6.out _ (HZT5.out _ (zed_new0 wr)))); have HZ8 := hide hz8; have kz0 := cell_heap (j := 0) hz8.1 rfl; have kz1 := fun (u : Value) => cell_heap (j := 1) (heap_set (j := 0) (u := u) hz8.1) rfl; have fz0 := frozen_heap (j := 0) hz8.1; have fz1 := fun (u : Value) => frozen_heap (j := 1) (heap_set (j := 0) (u := u) hz8.1); have l3 := ne_old HC.out.E.c3 hz8.2; have l4 := ne_old HC.out.E.c4 hz8.2; have HK9 := hide (fun (u : Value) => And.intro (cell_heap (j := 0) (heap_far (p := ⟨_, 0, none⟩) (u := u) HE8.out.c3 l3) rfl) (cell_heap (j := 0) (heap_far (p := ⟨_, 0, none⟩) (u := u) HE8.out.c4 l4) rfl)); have HK10 := hide (fun (u v : Value) => And.intro (cell_heap (j := 0) (heap_far (p := ⟨_, 1, none⟩) (u := v) (heap_far (p := ⟨_, 0, none⟩) (u := u) HE8.out.c3 l3) l3) rfl) (cell_heap (j := 0) (heap_far (p := ⟨_, 1, none⟩) (u := v) (heap_far (p := ⟨_, 0, none⟩) (u := u) HE8.out.c4 l4) l4) rfl)); clear hz8) | (have hz8 := HZT8.out _ (HZT7.out _ (HZT6.out _ (zed_new w5 (by simpa using hs5)))); have HZ8 := hide hz8; have kz0 := cell_heap (j := 0) hz8.1 rfl; have kz1 := fun (u : Value) => cell_heap (j := 1) (heap_set (j := 0) (u := u) hz8.1) rfl; have fz0 := frozen_heap (j := 0) hz8.1; have fz1 := fun (u : Value) => frozen_heap (j := 1) (heap_set (j := 0) (u := u) hz8.1); have l3 := ne_old HC.out.E.c3 hz8.2; have l4 := ne_old HC.out.E.c4 hz8.2; have HK9 := hide (fun (u : Value) => And.intro (cell_heap (j := 0) (heap_far (p := ⟨_, 0, none⟩) (u := u) HE8.out.c3 l3) rfl) (cell_heap (j := 0) (heap_far (p := ⟨_, 0, none⟩) (u := u) HE8.out.c4 l4) rfl)); have HK10 := hide (fun (u v : Value) => And.intro (cell_heap (j := 0) (heap_far (p := ⟨_, 1, none⟩) (u := v) (heap_far (p := ⟨_, 0, none⟩) (u := u) HE8.out.c3 l3) l3) rfl) (cell_heap (j := 0) (heap_far (p := ⟨_, 1, none⟩) (u := v) (heap_far (p := ⟨_, 0, none⟩) (u := u) HE8.out.c4 l4) l4) rfl)); clear hz8) | (have hz8 := HZT8.out _ (HZT7.out _ (zed_new w6 (by have := hs5; have := hs6; simp only [World.drew] at *; omega))); have HZ8 := hide hz8; have kz0 := cell_heap (j := 0) hz8.1 rfl; have kz1 := fun (u : Value) => cell_heap (j := 1) (heap_set (j := 0) (u := u) hz8.1) rfl; have fz0 := frozen_heap (j := 0) hz8.1; have fz1 := fun (u : Value) => frozen_heap (j := 1) (heap_set (j := 0) (u := u) hz8.1); have l3 := ne_old HC.out.E.c3 hz8.2; have l4 := ne_old HC.out.E.c4 hz8.2; have HK9 := hide (fun (u : Value) => And.intro (cell_heap (j := 0) (heap_far (p := ⟨_, 0, none⟩) (u := u) HE8.out.c3 l3) rfl) (cell_heap (j := 0) (heap_far (p := ⟨_, 0, none⟩) (u := u) HE8.out.c4 l4) rfl)); have HK10 := hide (fun (u v : Value) => And.intro (cell_heap (j := 0) (heap_far (p := ⟨_, 1, none⟩) (u := v) (heap_far (p := ⟨_, 0, none⟩) (u := u) HE8.out.c3 l3) l3) rfl) (cell_heap (j := 0) (heap_far (p := ⟨_, 1, none⟩) (u := v) (heap_far (p := ⟨_, 0, none⟩) (u := u) HE8.out.c4 l4) l4) rfl)); clear hz8) | (have hz8 := HZT8.out _ (zed_new w7 (by have := hs5; have := hs6; have := hs7; simp only [World.drew] at *; omega)); have HZ8 := hide hz8; have kz0 := cell_heap (j := 0) hz8.1 rfl; have kz1 := fun (u : Value) => cell_heap (j := 1) (heap_set (j := 0) (u := u) hz8.1) rfl; have fz0 := frozen_heap (j := 0) hz8.1; have fz1 := fun (u : Value) => frozen_heap (j := 1) (heap_set (j := 0) (u := u) hz8.1); have l3 := ne_old HC.out.E.c3 hz8.2; have l4 := ne_old HC.out.E.c4 hz8.2; have HK9 := hide (fun (u : Value) => And.intro (cell_heap (j := 0) (heap_far (p := ⟨_, 0, none⟩) (u := u) HE8.out.c3 l3) rfl) (cell_heap (j := 0) (heap_far (p := ⟨_, 0, none⟩) (u := u) HE8.out.c4 l4) rfl)); have HK10 := hide (fun (u v : Value) => And.intro (cell_heap (j := 0) (heap_far (p := ⟨_, 1, none⟩) (u := v) (heap_far (p := ⟨_, 0, none⟩) (u := u) HE8.out.c3 l3) l3) rfl) (cell_heap (j := 0) (heap_far (p := ⟨_, 1, none⟩) (u := v) (heap_far (p := ⟨_, 0, none⟩) (u := u) HE8.out.c4 l4) l4) rfl)); clear hz8) | skip)))
        all_goals (
          first
            | (have hfin := fin_set (z := wr.heap.size) (u := .int .u64 ((ofN Y).1 : Int)) (v := .int .u64 ((ofN Y).2 : Int)) HZ8.out; obtain ⟨y12, hF⟩ := hfin; have z0n := ne_of_lt_le (lt_heap HC.out.acc) HZ8.out.2; clear kz0 kz1 fz0 fz1; generalize (w8.setCell ⟨wr.heap.size, 0, none⟩ (.int .u64 ((ofN Y).1 : Int))).setCell ⟨wr.heap.size, 1, none⟩ (.int .u64 ((ofN Y).2 : Int)) = w9 at y12 hF ⊢)
            | (have hfin := fin_set (z := w5.heap.size) (u := .int .u64 ((ofN Y).1 : Int)) (v := .int .u64 ((ofN Y).2 : Int)) HZ8.out; obtain ⟨y12, hF⟩ := hfin; have z0n := ne_of_lt_le (lt_heap HC.out.acc) HZ8.out.2; clear kz0 kz1 fz0 fz1; generalize (w8.setCell ⟨w5.heap.size, 0, none⟩ (.int .u64 ((ofN Y).1 : Int))).setCell ⟨w5.heap.size, 1, none⟩ (.int .u64 ((ofN Y).2 : Int)) = w9 at y12 hF ⊢)
            | (have hfin := fin_set (z := w6.heap.size) (u := .int .u64 ((ofN Y).1 : Int)) (v := .int .u64 ((ofN Y).2 : Int)) HZ8.out; obtain ⟨y12, hF⟩ := hfin; have z0n := ne_of_lt_le (lt_heap HC.out.acc) HZ8.out.2; clear kz0 kz1 fz0 fz1; generalize (w8.setCell ⟨w6.heap.size, 0, none⟩ (.int .u64 ((ofN Y).1 : Int))).setCell ⟨w6.heap.size, 1, none⟩ (.int .u64 ((ofN Y).2 : Int)) = w9 at y12 hF ⊢)
            | (have hfin := fin_set (z := w7.heap.size) (u := .int .u64 ((ofN Y).1 : Int)) (v := .int .u64 ((ofN Y).2 : Int)) HZ8.out; obtain ⟨y12, hF⟩ := hfin; have z0n := ne_of_lt_le (lt_heap HC.out.acc) HZ8.out.2; clear kz0 kz1 fz0 fz1; generalize (w8.setCell ⟨w7.heap.size, 0, none⟩ (.int .u64 ((ofN Y).1 : Int))).setCell ⟨w7.heap.size, 1, none⟩ (.int .u64 ((ofN Y).2 : Int)) = w9 at y12 hF ⊢)
            | (have hfin := fin_new (wr := wr) (w8 := w8) (u := .int .u64 ((ofN Y).1 : Int)) (v := .int .u64 ((ofN Y).2 : Int)); obtain ⟨y12, hF⟩ := hfin; generalize w8.alloc (.cells #[.int .u64 ((ofN Y).1 : Int), .int .u64 ((ofN Y).2 : Int)] 34) = w9 at y12 hF ⊢)
          obtain ⟨hG9, hd9⟩ := fin_all HG2.out HB8.out hF hdbl
          have HE9 := hide (HC.out.E.kept hG9 (HM2.out.block hd9))
          have acc9 := heap_grown HC.out.acc hG9 (HC.out.E.ne HC.out.acc)
          have a0 := cell_heap (j := 0) acc9 rfl
          have a1 := cell_heap (j := 1) acc9 rfl
          have f0 := frozen_heap (j := 0) acc9
          have f1 : ∀ u, (w9.setCell ⟨w.heap.size + 1 + 1, 0, none⟩ u).frozen? ⟨w.heap.size + 1 + 1, 1, none⟩ = false := fun u => frozen_heap (heap_set acc9)
          have a2 : ∀ u, (w9.setCell ⟨w.heap.size + 1 + 1, 0, none⟩ u).cell? ⟨w.heap.size + 1 + 1, 1, none⟩ = some (.int .u64 ((ofN (accX X1 X2 i)).2 : Int)) := fun u => cell_heap (heap_set acc9) rfl
          have t0 := cell_heap (j := 0) y12 rfl
          have t1 := cell_heap (j := 1) y12 rfl
          have hXY : accX X1 X2 i + Y < 340282366920938463463374607431768211456 := by
            have := HAC.out
            have hle : accX X1 X2 (i + 1) ≤ X1 + X2 := by unfold accX; split <;> (try split) <;> omega
            omega
          obtain ⟨h1w, hh1, hh2, hh3⟩ := add_words hXY
          have hadd := fun w' => add_run (a := (ofN (accX X1 X2 i)).2) (b := (ofN Y).2) w'
          rw [hh3, ← HAC.out] at hadd
          rw [← HAC.out] at hh2
          have HCN := hide (cr_next (X' := accX X1 X2 (i + 1)) HC.out hG9 HE9.out HD2.out (HNX.out _ HN2.out) hlow HB.out.size)
          clear hG9 hd9 acc9 y12 hF hh3 hXY
          generalize ((ofN (accX X1 X2 i)).2 + (ofN Y).2) / 18446744073709551616 = cy at *
          go_wp2_with fail
          go_roundw
          case rel => exact ⟨i + 1, N2, fd2, by go_num, by omega, HCN.out⟩
          case measure => simp [intOf]; omega)
      · have e : i = 2 := by omega
        have d1 : decide ((i : Int) < 2) = false := by simp; omega
        have hC2 := hC
        rw [e, show accX X1 X2 2 = X1 + X2 from rfl] at hC2
        have HC2 := hide hC2
        have k1 := cell_heap (j := 0) hC2.E.c1 rfl
        have a0 := cell_heap (j := 0) hC2.acc rfl
        have a1 := cell_heap (j := 1) hC2.acc rfl
        have hNb : N' < maxLen := by have := hC2.n; unfold maxLen; omega
        have hk3 := key3 (f : Int) (by omega) (by omega)
        have hNn : N' + 1 + 1 ≤ N + 2 ^ (m + 1) := by have := hC2.n; omega
        have HNN := hide hNn
        have HE' := hide e
        clear hC hC2 hNn e
        go_wp2_with (at_mapUpdate; go_must (refine wpList_putC rfl (.tmp 75) (.tmp 76) (.tmp 77) rfl HC2.out.E.done keyed3 Try.underlying70 hNb enc3_inj rfl (f : Int) _ rfl hk3 (ofN (X1 + X2)) rfl ?_))
        intro w6 hmi hmt
        have hg6 := hmt.grown
        have acc6 := heap_grown HC2.out.acc hg6 (HC2.out.E.ne HC2.out.acc)
        have res6 := heap_grown HC2.out.res hg6 (HC2.out.E.ne HC2.out.res)
        have p0 := cell_heap (j := 0) acc6 rfl
        have p1 := cell_heap (j := 1) acc6 rfl
        have r0 := cell_heap (j := 0) res6 rfl
        have fz := frozen_heap (j := 0) res6
        have r1' : ∀ u, (w6.setCell ⟨w.heap.size, 0, none⟩ u).cell? ⟨w.heap.size, 1, none⟩ = some (.int .u64 0) := fun u => cell_heap (heap_set res6) rfl
        have fz' : ∀ u, (w6.setCell ⟨w.heap.size, 0, none⟩ u).frozen? ⟨w.heap.size, 1, none⟩ = false := fun u => frozen_heap (heap_set res6)
        have q0 := cell_heap (j := 0) (heap_set (j := 1) (u := .int .u64 ((ofN (X1 + X2)).2 : Int)) (heap_set (j := 0) (u := .int .u64 ((ofN (X1 + X2)).1 : Int)) res6)) rfl
        have q1' := cell_heap (j := 1) (heap_set (j := 1) (u := .int .u64 ((ofN (X1 + X2)).2 : Int)) (heap_set (j := 0) (u := .int .u64 ((ofN (X1 + X2)).1 : Int)) res6)) rfl
        have HX := hide (show CntOut S s.nd ov w db N (m + 1) (ofN (X1 + X2)) (.returned (.agg #[.int .u64 ((ofN (X1 + X2)).1 : Int), .int .u64 ((ofN (X1 + X2)).2 : Int)])) ((w6.setCell ⟨w.heap.size, 0, none⟩ (.int .u64 ((ofN (X1 + X2)).1 : Int))).setCell ⟨w.heap.size, 1, none⟩ (.int .u64 ((ofN (X1 + X2)).2 : Int))) from by
          obtain ⟨_, _, hs⟩ := MCnt.heap hmi
          have hne := Ne.symm (ne_kind res6 hs)
          exact ⟨N' + 1, _, rfl, gb_set (gb_set (gb_trans HC2.out.g hg6) (Nat.le_refl _) _ _) (Nat.le_refl _) _ _, HNN.out, (MCnt.setCell hmi hne _).setCell hne _, HC2.out.D.put h2 HALL.out⟩)
        have HQ01 := hide (And.intro q0 q1')
        clear hmi hmt hg6 acc6 res6 q0 q1'
        go_wp2_with fail
        generalize (w6.setCell ⟨w.heap.size, 0, none⟩ (.int .u64 ((ofN (X1 + X2)).1 : Int))).setCell ⟨w.heap.size, 1, none⟩ (.int .u64 ((ofN (X1 + X2)).2 : Int)) = w9 at *
        have q0 := HQ01.out.1
        have q1 := HQ01.out.2
        exact bodyPost_ret (v := .agg #[.int .u64 ((ofN (X1 + X2)).1 : Int), .int .u64 ((ofN (X1 + X2)).2 : Int)]) (by simp [results, Try.results32, go_sem, q0, q1]) rfl HX.out)
theorem count_all (S : Nat → Bool) (k : Blk) (s : St) (w0 : World) (A : Option Addr) (c : Nat) (ov : List Nat) (b1 b2 b3 b4 b5 db : Nat) (H : CntHyp S k s w0 A c ov) (hlow : w0.heap.size ≤ db) : ∀ n, CntAt S k s w0 A c ov b1 b2 b3 b4 b5 db n := by
  intro n
  induction n with
  | zero => intro f t F w N fd h; omega
  | succ n ih => exact count_step S k s w0 A c ov b1 b2 b3 b4 b5 db n H hlow ih
end Go.Proofs.Ytgfjdkkfgclhjaa.Bd
