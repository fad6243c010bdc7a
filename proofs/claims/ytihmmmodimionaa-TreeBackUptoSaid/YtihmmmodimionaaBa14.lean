/- What the claim leans on, part 14 of 15: YH YI YJ. -/
import Derived.ChangeMaps5
import Derived.Deep.DeepHandedRow
import Derived.Deep.Slices
import Derived.Deep.Strs
import Derived.OpenShut
import Derived.ProofKit
import Derived.RowKitTokens
import Derived.ShutString
import Derived.SizedLaws
import Derived.Test.YtihmmmodimionaaBa01
import Derived.Test.YtihmmmodimionaaBa02
import Derived.Test.YtihmmmodimionaaBa03
import Derived.Test.YtihmmmodimionaaBa04
import Derived.Test.YtihmmmodimionaaBa05
import Derived.Test.YtihmmmodimionaaBa06
import Derived.Test.YtihmmmodimionaaBa07
import Derived.Test.YtihmmmodimionaaBa08
import Derived.Test.YtihmmmodimionaaBa09
import Derived.Test.YtihmmmodimionaaBa10
import Derived.Test.YtihmmmodimionaaBa11
import Derived.Test.YtihmmmodimionaaBa12
import Derived.Test.YtihmmmodimionaaBa13
import Derived.Test.YtihmmmodimionaaRows
/- wide, walked; what one Parse answers; how great a forest of good rows is. -/
namespace Go.Proofs.Ytihmmmodimionaa.Tr
open Go.RowKit Go.Proofs.Ytihmmmodimionaa Go.Proofs.Ytihmmmodimionaa.Lx

def PO (r : PR) (F : Fo) (l c e : Int) (w : World) (e' : Ending) (w' : World) : Prop :=
  Below w.heap.size w w' ∧ (∃ v xs B, e' = .returned (.tuple #[v, .agg #[.int .i64 l, .int .i64 c], .int .i64 e]) ∧ Lo w w' v F xs B) ∧ match r with | .ok _ _ => e = 0 | .err _ _ _ => e ≠ 0
def ofPR : PR → Fo
  | .ok F _ => F
  | .err _ _ _ => .nil
theorem parse_one (s : ByteArray) (hlen : s.size ≤ maxLen) : Gd (ofPR (parseF (T s))) ∧ dpF 0 (ofPR (parseF (T s))) = true ∧ szF (ofPR (parseF (T s))) ≤ 17179869184 ∧
    ∃ (l c e : Int), ∀ (w : World) (m : Int), w.cell? ⟨0, 0, none⟩ = some (.int .i64 m) → Calls Try.prog 12 #[.string s] w (PO (parseF (T s)) (ofPR (parseF (T s))) l c e w) := by
  have hb := fun w m hm => parse_any s w hlen m hm
  cases hp : parseF (T s) with
  | ok F r =>
    obtain ⟨h1, h2, h3⟩ := parse_nice (T s) F r (gt_toks _).2 hp
    refine ⟨h1, h2, h3, 0, 0, 0, fun w m hm => ?_⟩
    have := hb w m hm
    rw [hp] at this
    exact this.mono fun e' w' h => ⟨h.1, h.2, rfl⟩
  | err e l c =>
    refine ⟨trivial, rfl, by simp [szF, ofPR], l, c, e, fun w m hm => ?_⟩
    have := hb w m hm
    rw [hp] at this
    exact this.mono fun e' w' h => ⟨h.1, ⟨_, _, _, h.2.2, (los_nil w w').toLo⟩, h.2.1⟩
/-! ### rows tell how great a forest is -/
def rsz : List RowD → Nat
  | [] => 0
  | r :: rs => r.ws.length + r.ps.length + 1 + rsz rs
def rwt : List RowD → Nat
  | [] => 0
  | r :: rs => wsW r.ws + 300 + rwt rs
theorem rsz_app : ∀ a b : List RowD, rsz (a ++ b) = rsz a + rsz b
  | [], b => by simp [rsz]
  | x :: xs, b => by rw [List.cons_append, rsz, rsz, rsz_app xs]; omega
theorem rwt_app : ∀ a b : List RowD, rwt (a ++ b) = rwt a + rwt b
  | [], b => by simp [rwt]
  | x :: xs, b => by rw [List.cons_append, rwt, rwt, rwt_app xs]; omega
theorem sz_rows : ∀ (F : Fo) (d : Nat), szF F = rsz (rowsF d F)
  | .nil, _ => rfl
  | .cons ws ps b Kd R, d => by
    rw [rowsF, rsz, rsz_app, ← sz_rows Kd, ← sz_rows R, szF]
    simp only
    omega
theorem wt_rows : ∀ (F : Fo) (d : Nat), wtF F = rwt (rowsF d F)
  | .nil, _ => rfl
  | .cons ws ps b Kd R, d => by
    rw [rowsF, rwt, rwt_app, ← wt_rows Kd, ← wt_rows R, wtF]
    simp only
    omega
theorem WB_rows : ∀ (F : Fo) (d : Nat), (∀ r ∈ rowsF d F, ∀ w ∈ r.ws, w.size < 4294967281) → WB F
  | .nil, _, _ => trivial
  | .cons ws ps b Kd R, d, h => by
    rw [rowsF] at h
    exact ⟨h ⟨d, ws, ps, b⟩ (by simp), WB_rows Kd (d + 1) (fun r hr => h r (by simp [hr])), WB_rows R d (fun r hr => h r (by simp [hr]))⟩
theorem Gd_rows : ∀ (F : Fo) (d : Nat), (∀ r ∈ rowsF d F, 1 ≤ r.ws.length ∧ 1 ≤ r.ps.length) → Gd F
  | .nil, _, _ => trivial
  | .cons ws ps b Kd R, d, h => by
    rw [rowsF] at h
    have h0 := h ⟨d, ws, ps, b⟩ (by simp)
    exact ⟨h0.1, h0.2, Gd_rows Kd (d + 1) (fun r hr => h r (by simp [hr])), Gd_rows R d (fun r hr => h r (by simp [hr]))⟩
theorem dp_rows : ∀ (F : Fo) (d : Nat), (∀ r ∈ rowsF d F, r.deep ≤ 60) → dpF d F = true
  | .nil, _, _ => rfl
  | .cons ws ps b Kd R, d, h => by
    rw [rowsF] at h
    have h0 := h ⟨d, ws, ps, b⟩ (by simp)
    rw [dpF, dp_rows Kd (d + 1) (fun r hr => h r (by simp [hr])), dp_rows R d (fun r hr => h r (by simp [hr])), decide_eq_true h0]
    rfl
theorem okR_all : ∀ (L : List RowD) (d : Nat), d ≤ 30 → okR d L → ∀ r ∈ L, r.deep ≤ 30 ∧ 1 ≤ r.ws.length ∧ r.ws.length ≤ 8 ∧ r.ps.length = r.ws.length
  | q :: qs, d, hd, h, r, hr => by
    rcases List.mem_cons.1 hr with rfl | hr
    · exact ⟨Nat.le_trans h.1 hd, h.2.1, h.2.2.1, h.2.2.2.1⟩
    · exact okR_all qs _ (nG_le (Nat.le_trans h.1 hd)) h.2.2.2.2 r hr
theorem wsW_le {N : Nat} : ∀ (ws : List ByteArray), (∀ w ∈ ws, w.size ≤ N) → wsW ws ≤ ws.length * (N + 3)
  | [], _ => Nat.zero_le _
  | w :: ws, h => by
    have h1 := wsW_le ws (fun v hv => h v (by simp [hv]))
    have h2 := h w (by simp)
    rw [wsW, List.length_cons, Nat.succ_mul]
    omega
theorem rwt_le {C : Nat} : ∀ (L : List RowD), (∀ r ∈ L, wsW r.ws + 300 ≤ C) → rwt L ≤ L.length * C
  | [], _ => Nat.zero_le _
  | r :: rs, h => by
    have h1 := rwt_le rs (fun q hq => h q (by simp [hq]))
    have h2 := h r (by simp)
    rw [rwt, List.length_cons, Nat.succ_mul]
    omega
theorem rsz_le : ∀ (L : List RowD), (∀ r ∈ L, r.ws.length ≤ 8 ∧ r.ps.length = r.ws.length) → rsz L ≤ L.length * 17
  | [], _ => Nat.zero_le _
  | r :: rs, h => by
    have h1 := rsz_le rs (fun q hq => h q (by simp [hq]))
    have h2 := h r (by simp)
    rw [rsz, List.length_cons, Nat.succ_mul]
    omega
abbrev forG (L : List RowI) : Fo := nodesF (goodR 0 0 L).length 0 (goodR 0 0 L)
structure FG (L : List RowI) : Prop where
  rows : rowsF 0 (forG L) = goodR 0 0 L
  nodes : (forG L).nodes ≤ 120
  sz : szF (forG L) ≤ 2040
  wt : wtF (forG L) ≤ 4398046511104
  wb : WB (forG L)
  gd : Gd (forG L)
  dp : dpF 0 (forG L) = true
  ws : ∀ r ∈ goodR 0 0 L, r.ws.length ≤ 8 ∧ r.ps.length = r.ws.length
  len : (goodR 0 0 L).length ≤ 120
theorem fg_of (L : List RowI) (hw : ∀ r ∈ L, ∀ w ∈ r.ws, w.size ≤ 1048576) : FG L := by
  have hrows := good_rows L
  have hlen : (goodR 0 0 L).length ≤ 120 := by have := good_len L 0 0; omega
  have hall := okR_all _ 0 (by omega) (good_ok L 0 0)
  have hws : ∀ r ∈ goodR 0 0 L, ∀ w ∈ r.ws, w.size ≤ 1048576 := fun r hr w hw' => by
    obtain ⟨q, hq, e⟩ := good_words L 0 0 r hr
    rw [e] at hw'
    exact hw q hq w hw'
  refine ⟨hrows, ?_, ?_, ?_, ?_, ?_, ?_, fun r hr => ⟨(hall r hr).2.2.1, (hall r hr).2.2.2⟩, hlen⟩
  · rw [← nodes_rows _ 0, hrows]; exact hlen
  · rw [sz_rows _ 0, hrows]
    have := rsz_le _ (fun r hr => ⟨(hall r hr).2.2.1, (hall r hr).2.2.2⟩)
    omega
  · rw [wt_rows _ 0, hrows]
    have := rwt_le (C := 8388932) (goodR 0 0 L) (fun r hr => by
      have h1 := wsW_le r.ws (hws r hr)
      have h2 := (hall r hr).2.2.1
      have h3 : r.ws.length * (1048576 + 3) ≤ 8 * (1048576 + 3) := Nat.mul_le_mul_right _ h2
      omega)
    have h4 : (goodR 0 0 L).length * 8388932 ≤ 120 * 8388932 := Nat.mul_le_mul_right _ hlen
    omega
  · refine WB_rows _ 0 ?_
    rw [hrows]
    exact fun r hr w hw' => by have := hws r hr w hw'; omega
  · refine Gd_rows _ 0 ?_
    rw [hrows]
    exact fun r hr => by have := hall r hr; omega
  · refine dp_rows _ 0 ?_
    rw [hrows]
    exact fun r hr => by have := hall r hr; omega
/-! ### wide -/
theorem T_cat (a b : ByteArray) : T (a ++ b) = T a ++ T b := by
  obtain ⟨a⟩ := a
  obtain ⟨b⟩ := b
  unfold T
  simp
theorem size_cat (a b : ByteArray) : (a ++ b).size = a.size + b.size := by
  rw [← T_len, T_cat, List.length_append, T_len, T_len]
set_option maxRecDepth 100000 in
theorem wide_any (s : ByteArray) (w : World) (hs : s.size ≤ maxLen) : Calls Try.prog 24 #[.string s] w fun e w' => (∃ u : ByteArray, e = .returned (.string u) ∧ (∀ x ∈ T u, x = 32 ∨ x = 10) ∧ (T u).length ≤ 40) ∧ Below w.heap.size w w' := by
  go_enter Try.func24, Try.ntmps24
  go_wp2_with fail
  go_loopw [3, 4] (fun y j wr => ∃ (u : ByteArray) (i : Nat), y = .string u ∧ j = .int .i64 i ∧ (∀ x ∈ T u, x = 32 ∨ x = 10) ∧ u.size ≤ i ∧ i ≤ 40 ∧ i ≤ s.size ∧ wr = w) (fun _ j _ => s.size - (intOf j).toNat)
  case atStart => exact ⟨⟨#[]⟩, 0, rfl, rfl, fun x hx => (by cases hx), Nat.le_refl _, by omega, Nat.zero_le _, rfl⟩
  case round =>
    obtain ⟨u, i, rfl, rfl, hu, hui, hi, his, rfl⟩ := hrel
    rcases Nat.lt_or_ge i s.size with hlt | hge
    · have d1 : decide (i < s.size) = true := decide_eq_true hlt
      have d1' : decide ((i : Int) < (s.size : Int)) = true := decide_eq_true (by omega)
      have d2 : ((i : Int) < (s.size : Int)) := by omega
      rcases Nat.lt_or_ge i 40 with h40 | h40
      · have e1 : decide (i < 40) = true := decide_eq_true h40
        have e1' : decide ((i : Int) < 40) = true := decide_eq_true (by omega)
        go_wp2_with fail
        · refine ⟨⟨_, i + 1, rfl, by go_num, fun x hx => ?_, ?_, by omega, hlt, trivial⟩, by simp [intOf]; omega⟩
          · rw [T_cat] at hx
            rcases List.mem_append.1 hx with hx | hx
            · exact hu x hx
            · exact .inr (by simpa [T] using hx)
          · rw [size_cat, show (⟨#[10]⟩ : ByteArray).size = 1 from rfl]
            omega
        · refine ⟨⟨_, i + 1, rfl, by go_num, fun x hx => ?_, ?_, by omega, hlt, trivial⟩, by simp [intOf]; omega⟩
          · rw [T_cat] at hx
            rcases List.mem_append.1 hx with hx | hx
            · exact hu x hx
            · exact .inl (by simpa [T] using hx)
          · rw [size_cat, show (⟨#[32]⟩ : ByteArray).size = 1 from rfl]
            omega
      · have e1 : decide (i < 40) = false := decide_eq_false (by omega)
        have e1' : decide ((i : Int) < 40) = false := decide_eq_false (by omega)
        have HU := hide (show (∀ x ∈ T u, x = 32 ∨ x = 10) ∧ (T u).length ≤ 40 from ⟨hu, by rw [T_len]; omega⟩)
        clear hu hui hi his hlt h40
        go_wp2_with fail
        go_ret
        exact ⟨⟨u, rfl, HU.out⟩, Below.refl _ _⟩
    · have d1 : decide (i < s.size) = false := decide_eq_false (by omega)
      have d1' : decide ((i : Int) < (s.size : Int)) = false := decide_eq_false (by omega)
      have HU := hide (show (∀ x ∈ T u, x = 32 ∨ x = 10) ∧ (T u).length ≤ 40 from ⟨hu, by rw [T_len]; omega⟩)
      clear hu hui hi his hge
      go_wp2_with fail
      go_ret
      exact ⟨⟨u, rfl, HU.out⟩, Below.refl _ _⟩
end Go.Proofs.Ytihmmmodimionaa.Tr
/- TreeBack, walked. -/
namespace Go.Proofs.Ytihmmmodimionaa.Tr
open Go.RowKit Go.Proofs.Ytihmmmodimionaa Go.Proofs.Ytihmmmodimionaa.Lx

theorem RiV.keep {w w' : World} {B : Nat → Prop} : ∀ {rs : List RowI} {xs : List Value}, RiV w B rs xs → (∀ b, B b → w'.heap[b]? = w.heap[b]?) → RiV w' B rs xs
  | [], _, h, _ => h
  | r :: rs, xs, h, hb => by
    obtain ⟨vw, A, n, c, xs', e, h1, h2⟩ := h
    exact ⟨vw, A, n, c, xs', e, ⟨h1.1, fun h => (h1.2 h).keep hb⟩, RiV.keep h2 hb⟩
theorem printV_some (t : List UInt8) : printV (some t) = .tuple #[.string ⟨t.toArray⟩, .int .i64 0] := rfl
theorem printV_none : printV none = .tuple #[.string ⟨#[]⟩, .int .i64 1] := rfl
theorem nodes_sz' : ∀ F : Fo, F.nodes ≤ szF F
  | .nil => Nat.le_refl _
  | .cons ws ps _ K R => by
    have h1 := nodes_sz' K
    have h2 := nodes_sz' R
    show K.nodes + R.nodes + 1 ≤ ws.length + ps.length + 1 + szF K + szF R
    omega
theorem T_mk (t : List UInt8) : T ⟨t.toArray⟩ = t := by simp [T]
theorem size_mk (t : List UInt8) : (⟨t.toArray⟩ : ByteArray).size = t.length := by simp [ByteArray.size]
set_option maxHeartbeats 8000000 in
set_option maxRecDepth 100000 in
theorem back_any (L : List RowI) (A : Option Addr) (c : Nat) (xs : List Value) (B : Nat → Prop) (s blank : ByteArray) (w : World) (hs : Src w A L.length c 4 xs) (hv : RiV w B L xs) (hB : ∀ b, B b → b < w.heap.size) (hl : L.length ≤ 1048576) (hw : ∀ r ∈ L, ∀ w ∈ r.ws, w.size ≤ 1048576) (hs1 : s.size ≤ 1048576) (hb1 : blank.size ≤ 1048576) (m : Int) (hm : w.cell? ⟨0, 0, none⟩ = some (.int .i64 m)) :
    Calls Try.prog 6 #[.slice A L.length c, .string s, .string blank] w fun e w' => e = .returned (.bool true) ∧ Below w.heap.size w w' := by
  have h0 := lt_of_cell hm
  simp only at h0
  have HM := hide hm
  have HS := hide hs
  have HV := hide hv
  have HB := hide hB
  have HFG := hide (fg_of L hw)
  clear hs hv hB hw hm
  go_enter Try.func6, Try.ntmps6
  go_wp2_with fail
  refine (awake_any w m HM.out).mono ?_
  rintro e w1 ⟨rfl, hb1'⟩
  have HB1 := hide hb1'
  clear hb1'
  have HGA := hide (good_any L A c xs B w1 (HS.out.below HB1.out) (HV.out.keep (fun b hb => HB1.out.block b (HB.out b hb))) (fun b hb => Nat.lt_of_lt_of_le (HB.out b hb) HB1.out.size) (by omega))
  go_wp2_with fail
  refine HGA.out.mono ?_
  rintro e w2 ⟨hb2, v, ys, D, rfl, hrg, -⟩
  obtain ⟨Av, cv, rfl⟩ := own_slice hrg.own
  have hcaps := own_caps hrg.own
  have hgl := HFG.out.len
  have HB2 := hide (below_lo HB1.out hb2 HB1.out.size)
  have HNO := hide (nodes_any (goodR 0 0 L).length (goodR 0 0 L) rfl 0 Av cv ys D w2 (own_src hrg.own) hrg.rw' (fun q hq => (hrg.hD q hq).1) (fun a ha => (hrg.own.lt a.block (by rw [ha]; rfl)).2) hcaps.1 hcaps.2.1 (by omega) (fun r hr => by have := HFG.out.ws r hr; omega) (by omega))
  clear hb2 hrg hcaps HGA hgl
  go_wp2_with fail
  refine HNO.out.mono ?_
  rintro e w3 ⟨hb3, va, ya, BA, rfl, hlo⟩
  have HB3 := hide (below_lo HB2.out hb3 HB2.out.size)
  obtain ⟨AA, cA, rfl⟩ := own_slice hlo.own
  have HLA := hide hlo.toLo
  have HPR := hide (print_any (forG L) AA cA ya BA w3 (own_src hlo.own) hlo.fo (fun q hq => (hlo.hB q hq).2.1) (fun a ha => (hlo.own.lt a.block (by rw [ha]; rfl)).2) HFG.out.wt HFG.out.wb m (cell_lo HB3.out (a := ⟨0, 0, none⟩) h0 HM.out))
  clear hb3 hlo HNO
  obtain ⟨u, e0, hpv, hu⟩ : ∃ (u : ByteArray) (e0 : Int), printV (writeF 0 (forG L)) = .tuple #[.string u, .int .i64 e0] ∧ (e0 = 0 → ∃ t, writeF 0 (forG L) = some t ∧ T u = t ∧ u.size = t.length) := by
    cases hwf : writeF 0 (forG L) with
    | none => exact ⟨_, _, printV_none, fun h => absurd h (by decide)⟩
    | some t => exact ⟨_, _, printV_some t, fun _ => ⟨t, rfl, T_mk t, size_mk t⟩⟩
  rw [hpv] at HPR
  have HU := hide hu
  clear hpv hu
  go_wp2_with fail
  refine HPR.out.mono ?_
  rintro e w4 ⟨rfl, hb4⟩
  have HB4 := hide (below_lo HB3.out hb4 HB3.out.size)
  have HLA4 := hide (HLA.out.grow (grown_of_below hb4) (fun b e => by cases e))
  clear hb4 HPR HLA
  go_upto_region 5 with fail
  go_cut [39] (fun v wx => ∃ bv : Bool, v = .bool bv ∧ wx = w4 ∧ (bv = true → ∃ t, writeF 0 (forG L) = some t ∧ T u = t ∧ t.length ≤ 60000))
  case first =>
    by_cases he : e0 = 0
    · have b1 : (e0 == 0) = true := by simpa using he
      by_cases hz : u.size < 60000
      · have b2 : decide (u.size < 60000) = true := decide_eq_true hz
        have b2' : decide ((u.size : Int) < 60000) = true := decide_eq_true (by omega)
        have HT := hide (show ∃ t, writeF 0 (forG L) = some t ∧ T u = t ∧ t.length ≤ 60000 from by
          obtain ⟨t, h1, h2, h3⟩ := HU.out he
          exact ⟨t, h1, h2, by omega⟩)
        by_cases hl2 : L.length < 2000
        · have b3 : decide (L.length < 2000) = true := decide_eq_true hl2
          have b3' : decide ((L.length : Int) < 2000) = true := decide_eq_true (by omega)
          clear he
          go_wp2_with fail
          go_meet
          case rel => exact ⟨true, rfl, rfl, fun _ => HT.out⟩
        · have b3 : decide (L.length < 2000) = false := decide_eq_false hl2
          have b3' : decide ((L.length : Int) < 2000) = false := decide_eq_false (by omega)
          clear he
          go_wp2_with fail
          go_meet
          case rel => exact ⟨false, rfl, rfl, fun h => (by cases h)⟩
      · have b2 : decide (u.size < 60000) = false := decide_eq_false hz
        have b2' : decide ((u.size : Int) < 60000) = false := decide_eq_false (by omega)
        clear he
        go_wp2_with fail
        go_meet
        case rel => exact ⟨false, rfl, rfl, fun h => (by cases h)⟩
    · have b1 : (e0 == 0) = false := by simpa using he
      clear he
      go_wp2_with fail
      go_meet
      case rel => exact ⟨false, rfl, rfl, fun h => (by cases h)⟩
  case rest =>
    obtain ⟨bv, rfl, rfl, hbv⟩ := hcut
    go_upto_if 39 with fail
    go_cut [] (fun wx => Below w.heap.size w wx)
    case first =>
      cases bv with
      | false =>
        clear hbv
        go_wp2_with fail
        go_meet
        case rel => exact HB4.out
      | true =>
        obtain ⟨t, ht, hTu, htl⟩ := hbv rfl
        obtain ⟨F', hp, hsame⟩ := read_plain ht (by have := HFG.out.nodes; omega) htl
        have husz : u.size ≤ maxLen := by have := T_len u; rw [hTu] at this; unfold maxLen; omega
        obtain ⟨hgd, hdp, hsz, l, c2, e2, hP⟩ := parse_one u husz
        rw [hTu, hp] at hP hsz
        have HPP := hide (hP wc m (cell_lo HB4.out (a := ⟨0, 0, none⟩) h0 HM.out))
        have HSM := hide hsame
        have HSZ := hide (show szF F' ≤ 17179869184 from hsz)
        clear hbv hgd hdp hsz hP ht hTu htl hp hsame husz
        go_wp2_with fail
        refine HPP.out.mono ?_
        rintro e w5 ⟨hb5, ⟨v, xb, BB, rfl, hlo⟩, he0⟩
        have he2 : e2 = 0 := he0
        subst he2
        obtain ⟨AB, cB, rfl⟩ := own_slice hlo.own
        have HB5 := hide (below_lo (below_lo HB4.out hb5 HB4.out.size) (bel_one w5 (PosC l c2)) (Nat.le_trans HB4.out.size hb5.size))
        have hla5 := (HLA4.out.grow (grown_of_below hb5) (fun b e => by cases e)).grow (World.grownBy_alloc w5 (PosC l c2) none) (fun b e => by cases e)
        have hlb5 := hlo.grow (World.grownBy_alloc w5 (PosC l c2) none) (fun b e => by cases e)
        have HSA := hide (tsame_any _ (forG L) rfl F' AA AB cA cB ya xb BA BB (w5.alloc (PosC l c2)) (own_src hla5.own) hla5.fo (own_src hlb5.own) hlb5.fo (fun a ha => (hla5.own.lt a.block (by rw [ha]; rfl)).2) (fun a ha => (hlb5.own.lt a.block (by rw [ha]; rfl)).2) (fun q hq => (hla5.hB q hq).2.1) (fun q hq => (hlb5.hB q hq).2.1) (by have := HFG.out.sz; omega) (by have := HSZ.out; omega))
        rw [HSM.out] at HSA
        clear hb5 hlo he0 hla5 hlb5 HPP
        go_wp2_with fail
        refine HSA.out.mono ?_
        rintro e w6 ⟨rfl, hb6⟩
        have HB6 := hide (below_lo HB5.out hb6 HB5.out.size)
        clear hb6 HSA
        go_wp2_with fail
        go_meet
        case rel => exact HB6.out
    case rest =>
      have HBc := hide hcut
      clear hcut hbv HLA4 HB1 HB2 HB3 HB4 HU
      obtain ⟨hgd, hdp, hsz, l, c2, e2, hP⟩ := parse_one s (by unfold maxLen; omega)
      have HPP := hide (hP wc m (cell_lo HBc.out (a := ⟨0, 0, none⟩) h0 HM.out))
      have HGD := hide (And.intro hgd (And.intro hdp hsz))
      clear hgd hdp hsz hP
      cases hp : parseF (T s) with
      | err ee el ec =>
        rw [hp] at HPP
        go_wp2_with fail
        refine HPP.out.mono ?_
        rintro e w5 ⟨hb5, ⟨v, xb, BB, rfl, hlo⟩, he0⟩
        have hne : (e2 != 0) = true := bne_iff_ne.2 he0
        obtain ⟨AB, cB, rfl⟩ := own_slice hlo.own
        have HB5 := hide (below_lo (below_lo HBc.out hb5 HBc.out.size) (bel_one w5 (PosC l c2)) (Nat.le_trans HBc.out.size hb5.size))
        clear hb5 hlo he0 HPP
        go_wp2_with fail
        go_ret
        exact ⟨rfl, HB5.out⟩
      | ok F2 r2 =>
        rw [hp] at HPP HGD
        obtain ⟨⟨t2, ht2⟩, hwb, hwt⟩ := parse_writes (T s) F2 r2 hp
        have HTW := hide ht2
        have HWB := hide (And.intro hwb hwt)
        have htl : t2.length ≤ 4398046511104 := Nat.le_trans (write_wt F2 0 t2 ht2 (by omega)) hwt
        clear ht2 hwb hwt hp
        go_wp2_with fail
        refine HPP.out.mono ?_
        rintro e w5 ⟨hb5, ⟨v, xb, BB, rfl, hlo⟩, he0⟩
        have he2 : e2 = 0 := he0
        subst he2
        obtain ⟨AB, cB, rfl⟩ := own_slice hlo.own
        have HB5 := hide (below_lo (below_lo HBc.out hb5 HBc.out.size) (bel_one w5 (PosC l c2)) (Nat.le_trans HBc.out.size hb5.size))
        have HLC := hide (hlo.grow (World.grownBy_alloc w5 (PosC l c2) none) (fun b e => by cases e))
        clear hb5 hlo he0 HPP
        generalize hO : ofPR (PR.ok F2 r2) = O at *
        obtain rfl : F2 = O := hO
        have HPR := hide (print_any F2 AB cB xb BB (w5.alloc (PosC l c2)) (own_src HLC.out.own) HLC.out.fo (fun q hq => (HLC.out.hB q hq).2.1) (fun a ha => (HLC.out.own.lt a.block (by rw [ha]; rfl)).2) HWB.out.2 HWB.out.1 m (cell_lo HB5.out (a := ⟨0, 0, none⟩) h0 HM.out))
        rw [HTW.out, printV_some] at HPR
        go_wp2_with fail
        generalize w5.alloc (PosC l c2) = x5 at *
        refine HPR.out.mono ?_
        rintro e w6 ⟨rfl, hb6⟩
        have HB6 := hide (below_lo HB5.out hb6 HB5.out.size)
        have HLC6 := hide (HLC.out.grow (grown_of_below hb6) (fun b e => by cases e))
        clear hb6 HPR HLC
        go_wp2_with fail
        refine (wide_any blank w6 (by unfold maxLen; omega)).mono ?_
        rintro e w7 ⟨⟨ub, rfl, hub, hubl⟩, hb7⟩
        have HB7 := hide (below_lo HB6.out hb7 HB6.out.size)
        have HLC7 := hide (HLC6.out.grow (grown_of_below hb7) (fun b e => by cases e))
        have HUB := hide hub
        have hus : ub.size ≤ 40 := by rw [← T_len]; exact hubl
        have HUL := hide hubl
        clear hb7 hub HLC6 hubl
        have hT3 : T ((⟨#[32, 47, 42, 32, 120, 32, 42, 47, 32]⟩ : ByteArray) ++ ub ++ ⟨t2.toArray⟩ ++ ⟨#[35, 32, 121]⟩) = headT ++ T ub ++ t2 ++ endT := by
          rw [T_cat, T_cat, T_cat, T_mk]
          rfl
        obtain ⟨hgd3, hdp3, hsz3, l3, c3, e3, hP3⟩ := parse_one ((⟨#[32, 47, 42, 32, 120, 32, 42, 47, 32]⟩ : ByteArray) ++ ub ++ ⟨t2.toArray⟩ ++ ⟨#[35, 32, 121]⟩) (by
          rw [size_cat, size_cat, size_cat]
          show 9 + ub.size + (⟨t2.toArray⟩ : ByteArray).size + 3 ≤ maxLen
          rw [size_mk t2]
          unfold maxLen
          omega)
        have HPP := hide (hP3 w7 m (cell_lo HB7.out (a := ⟨0, 0, none⟩) h0 HM.out))
        have HSZ3 := hide hsz3
        rw [hT3] at HPP HSZ3
        generalize hq3 : parseF (headT ++ T ub ++ t2 ++ endT) = q3 at HPP HSZ3
        have HQ3 := hide hq3
        clear hgd3 hdp3 hsz3 hP3 hT3 hq3
        go_wp2_with fail
        refine HPP.out.mono ?_
        rintro e w8 ⟨hb8, ⟨v, xd, BD, rfl, hlo⟩, he3⟩
        obtain ⟨AD, cD, rfl⟩ := own_slice hlo.own
        have HB8 := hide (below_lo (below_lo HB7.out hb8 HB7.out.size) (bel_one w8 (PosC l3 c3)) (Nat.le_trans HB7.out.size hb8.size))
        have HLD := hide (hlo.grow (World.grownBy_alloc w8 (PosC l3 c3) none) (fun b e => by cases e))
        have HLC8 := hide ((HLC7.out.grow (grown_of_below hb8) (fun b e => by cases e)).grow (World.grownBy_alloc w8 (PosC l3 c3) none) (fun b e => by cases e))
        have HE3 := hide he3
        have HNR := hide (nodes_rows F2 0)
        have hns2 : F2.nodes ≤ 17179869184 := by have := nodes_sz' F2; have h2 := HGD.out.2.2; (try simp only [ofPR] at h2); omega
        have HRW := hide (rowsG_any F2.nodes F2 rfl 0 AB cB xb BB (w8.alloc (PosC l3 c3)) (own_src HLC8.out.own) HLC8.out.fo (fun q hq => (HLC8.out.hB q hq).2.1) (fun a ha => (HLC8.out.own.lt a.block (by rw [ha]; rfl)).2) (by have h2 := HGD.out.2.2; (try simp only [ofPR] at h2); omega) HGD.out.1 HGD.out.2.1 (by omega))
        clear hb8 hlo he3 HPP
        by_cases hbig : 60000 < t2.length
        · have b1 : decide (60000 < t2.length) = true := decide_eq_true hbig
          have b1' : decide ((60000 : Int) < (t2.length : Int)) = true := decide_eq_true (by omega)
          clear hbig
          go_wp2_with fail
          go_ret
          exact ⟨rfl, HB8.out⟩
        · have b1 : decide (60000 < t2.length) = false := decide_eq_false hbig
          have b1' : decide ((60000 : Int) < (t2.length : Int)) = false := decide_eq_false (by omega)
          have HBG := hide hbig
          clear hbig
          go_wp2_with fail
          generalize w8.alloc (PosC l3 c3) = x8 at *
          refine HRW.out.mono ?_
          rintro e w9 ⟨hb9, v9, y9, B9, rfl, h9, -⟩
          obtain ⟨A9, c9, rfl⟩ := own_slice h9.own
          have HB9 := hide (below_lo HB8.out hb9 HB8.out.size)
          have HLC9 := hide (HLC8.out.grow (grown_of_below hb9) (fun b e => by cases e))
          have HLD9 := hide (HLD.out.grow (grown_of_below hb9) (fun b e => by cases e))
          have hnr := HNR.out
          clear hb9 h9 HRW b1 b1'
          rw [hnr]
          clear hnr
          by_cases hn : 1500 < F2.nodes
          · have b2 : decide (1500 < F2.nodes) = true := decide_eq_true hn
            have b2' : decide ((1500 : Int) < (F2.nodes : Int)) = true := decide_eq_true (by omega)
            clear hn
            go_wp2_with fail
            go_ret
            exact ⟨rfl, HB9.out⟩
          · have b2 : decide (1500 < F2.nodes) = false := decide_eq_false hn
            have b2' : decide ((1500 : Int) < (F2.nodes : Int)) = false := decide_eq_false (by omega)
            obtain ⟨F3, hp3, hsame⟩ := read_wide HTW.out HUB.out HUL.out (by omega) (by have := HBG.out; omega)
            have hq3 : q3 = .ok F3 [] := by rw [← HQ3.out]; exact hp3
            subst hq3
            have he3 : e3 = 0 := HE3.out
            subst he3
            have HSA := hide (tsame_any _ F2 rfl F3 AB AD cB cD xb xd BB BD w9 (own_src HLC9.out.own) HLC9.out.fo (own_src HLD9.out.own) HLD9.out.fo (fun a ha => (HLC9.out.own.lt a.block (by rw [ha]; rfl)).2) (fun a ha => (HLD9.out.own.lt a.block (by rw [ha]; rfl)).2) (fun q hq => (HLC9.out.hB q hq).2.1) (fun q hq => (HLD9.out.hB q hq).2.1) (by have h2 := HGD.out.2.2; (try simp only [ofPR] at h2); omega) (by have h2 := HSZ3.out; (try simp only [ofPR] at h2); omega))
            rw [hsame] at HSA
            clear hn hp3 hsame HQ3 HE3
            go_wp2_with fail
            refine HSA.out.mono ?_
            rintro e w10 ⟨rfl, hb10⟩
            have HB10 := hide (below_lo HB9.out hb10 HB9.out.size)
            clear hb10 HSA
            go_wp2_with fail
            go_ret
            exact ⟨rfl, HB10.out⟩
end Go.Proofs.Ytihmmmodimionaa.Tr
/- What the arguments of the statements on trees read as; what the bound on their bulk gives. -/
namespace Go.Proofs.Ytihmmmodimionaa.Tr
open Go.ChangeShapes Go.WideShapes Go.ChangeAt Go.RowKit Go.Proofs.Ytihmmmodimionaa Go.Proofs.Ytihmmmodimionaa.Lx

theorem cellsRow : Try.prog.cellsOf 62 = 4 := by kernel_rfl
theorem cellsStr : Try.prog.cellsOf 9 = 1 := by kernel_rfl
theorem cellsStrs : Try.prog.cellsOf 41 = 1 := by kernel_rfl
theorem cellsPoss : Try.prog.cellsOf 42 = 1 := by kernel_rfl
theorem cellsInt : Try.prog.cellsOf 3 = 1 := by kernel_rfl
theorem cellsBool : Try.prog.cellsOf 4 = 1 := by kernel_rfl
theorem bulk_one {H : Type} (d : DataW H) : 1 ≤ Rows.uptoBulk d := by
  cases d with
  | lit l => cases l <;> simp [Rows.uptoBulk]
  | nil => simp [Rows.uptoBulk]
  | ptr d => simp [Rows.uptoBulk]
  | slice elems spare => simp [Rows.uptoBulk]
  | agg parts => simp [Rows.uptoBulk]
  | iface t d => simp [Rows.uptoBulk]
  | map entries => simp [Rows.uptoBulk]
  | held h => simp [Rows.uptoBulk]
theorem bulk_part {H : Type} {d : DataW H} {l : List (DataW H)} (h : d ∈ l) : Rows.uptoBulk d ≤ Rows.uptoBulkAll l := by
  induction l with
  | nil => cases h
  | cons x r ih =>
    simp only [Rows.uptoBulkAll]
    cases List.mem_cons.1 h with
    | inl e => subst e; omega
    | inr e => have := ih e; omega
theorem bulk_len {H : Type} (l : List (DataW H)) : l.length ≤ Rows.uptoBulkAll l := by
  induction l with
  | nil => simp [Rows.uptoBulkAll]
  | cons x r ih => have := bulk_one x; simp only [Rows.uptoBulkAll, List.length_cons]; omega
theorem bulk_all {H : Type} {l : List (DataW H)} (hk : Rows.uptoSmall H l = true) : Rows.uptoBulkAll l ≤ 1048576 := of_decide_eq_true hk
theorem bulk_elems {H : Type} (el sp : List (DataW H)) : Rows.uptoBulkAll el + 1 ≤ Rows.uptoBulk (.slice el sp) := by
  simp only [Rows.uptoBulk]
  omega
theorem bulk_agg {H : Type} (l : List (DataW H)) : Rows.uptoBulkAll l + 1 ≤ Rows.uptoBulk (.agg l) := by
  simp only [Rows.uptoBulk]
  omega
theorem bulk_str {H : Type} (b : List UInt8) : Rows.uptoBulk (DataW.lit (H := H) (.string b)) = b.length + 1 := by simp [Rows.uptoBulk]
section
variable {H : Type} {enc : TypeId × Value → H} {w : World} {base : Nat} {spare : Nat → Bool} {held : Bool}
/-- a row of words, as it comes in -/
theorem open_words {n : Nat} {cs : List Value} {x : DataW H × List MemPlace} (h : DataW.trod enc Try.prog w base spare held n 41 cs = some x) :
    ∃ (A : Option Addr) (c : Nat) (ws : List ByteArray), cs = [.slice A ws.length c] ∧ Src w A ws.length c 1 (ws.map Value.string) ∧ (∀ u ∈ ws, u.size ≤ Rows.uptoBulk x.1) ∧ ws.length ≤ Rows.uptoBulk x.1 ∧ (ws.length ≠ 0 → ∀ a, A = some a → a.block < w.heap.size ∧ ws.length ≤ c) := by
  rcases Go.Deep.open_strs Try.underlying41 Try.underlying9 cellsStr h with ⟨hcs, hx⟩ | ⟨a, len, cap, m, Sx, hcs, _, hl, hm, hmm, hx, hi⟩
  · exact ⟨none, 0, [], hcs, ⟨rfl, .inl ⟨rfl, rfl, rfl⟩⟩, fun u hu => (by cases hu), Nat.zero_le _, fun h => absurd rfl h⟩
  · have hlm : len ≤ m := by rw [hmm]; split <;> omega
    have hlen : ((List.range len).map Sx).length = len := by simp
    have hmem : ∀ i, i < len → (Sx i).size + 1 ≤ Rows.uptoBulk x.1 := fun i hi => by
      have h1 := bulk_part (H := H) (d := .lit (.string (Sx i).data.toList)) (l := (List.range len).map fun i => .lit (.string (Sx i).data.toList)) (List.mem_map.2 ⟨i, List.mem_range.2 hi, rfl⟩)
      rw [bulk_str, Array.length_toList] at h1
      have h2 := bulk_elems ((List.range len).map fun i => DataW.lit (H := H) (.string (Sx i).data.toList)) ((List.range (m - len)).map fun j => .lit (.string (Sx (len + j)).data.toList))
      rw [hx]
      have h3 : (Sx i).size = (Sx i).data.size := rfl
      simp only
      omega
    refine ⟨some a, cap, (List.range len).map Sx, by rw [hlen]; exact hcs, ⟨by simp, .inr ⟨a, rfl, fun j u hj => ?_⟩⟩, fun u hu => ?_, ?_, fun h0 q hq => ?_⟩
    · have hjl : j < len := by
        have := (List.getElem?_eq_some_iff.1 hj).1
        simpa using this
      rw [List.getElem?_map, List.getElem?_map, List.getElem?_range hjl] at hj
      injection hj with hj
      rw [← hj]
      exact (hi j (by omega)).1
    · obtain ⟨i, hir, rfl⟩ := List.mem_map.1 hu
      have := hmem i (List.mem_range.1 hir)
      omega
    · rw [hlen]
      have h1 := bulk_len ((List.range len).map fun i => DataW.lit (H := H) (.string (Sx i).data.toList))
      have h2 := bulk_elems ((List.range len).map fun i => DataW.lit (H := H) (.string (Sx i).data.toList)) ((List.range (m - len)).map fun j => .lit (.string (Sx (len + j)).data.toList))
      rw [List.length_map, List.length_range] at h1
      rw [hx]
      simp only
      omega
    · cases hq
      rw [hlen] at h0
      have h1 := (hi 0 (by omega)).1
      refine ⟨?_, by rw [hlen]; exact hl⟩
      have h2 := World.block_lt_of_cell? w _ h1
      rw [add_block] at h2
      exact h2
def rowI (r : RowI) (vw : Value) (A : Option Addr) (n c : Nat) : List Value := [.int .i64 r.deep, vw, .slice A n c, .bool r.op]
set_option maxRecDepth 100000 in
/-- a row, as it comes in -/
theorem open_rowI {n : Nat} {cs : List Value} {x : DataW H × List MemPlace} (h : DataW.trod enc Try.prog w base spare held n 62 cs = some x) :
    ∃ (r : RowI) (vw : Value) (A : Option Addr) (k c : Nat), cs = rowI r vw A k c ∧ ((∃ Aw cw, vw = .slice Aw r.ws.length cw) ∧ (r.ws.length ≠ 0 → StrV w (fun q => q < w.heap.size) vw r.ws)) ∧ (∀ u ∈ r.ws, u.size ≤ Rows.uptoBulk x.1) := by
  obtain ⟨xs, m, _, hxe, hl, hxl, hf⟩ := DataW.trod_struct Try.underlying62 h
  rw [cellsRow] at hl
  match cs, hl with
  | [c0, c1, c2, c3], _ =>
    have g0 : DataW.trod enc Try.prog w base spare held m 3 ((List.drop 0 [c0, c1, c2, c3]).take (Try.prog.cellsOf 3)) = xs[0]? := hf 0 _ rfl
    rw [cellsInt] at g0
    change DataW.trod enc Try.prog w base spare held m 3 [c0] = _ at g0
    have g1 : DataW.trod enc Try.prog w base spare held m 41 ((List.drop 1 [c0, c1, c2, c3]).take (Try.prog.cellsOf 41)) = xs[1]? := hf 1 _ rfl
    rw [cellsStrs] at g1
    change DataW.trod enc Try.prog w base spare held m 41 [c1] = _ at g1
    have g2 : DataW.trod enc Try.prog w base spare held m 42 ((List.drop 2 [c0, c1, c2, c3]).take (Try.prog.cellsOf 42)) = xs[2]? := hf 2 _ rfl
    rw [cellsPoss] at g2
    change DataW.trod enc Try.prog w base spare held m 42 [c2] = _ at g2
    have g3 : DataW.trod enc Try.prog w base spare held m 4 ((List.drop 3 [c0, c1, c2, c3]).take (Try.prog.cellsOf 4)) = xs[3]? := hf 3 _ rfl
    rw [cellsBool] at g3
    change DataW.trod enc Try.prog w base spare held m 4 [c3] = _ at g3
    have l0 : 0 < xs.length := by rw [hxl]; decide
    have l1 : 1 < xs.length := by rw [hxl]; decide
    have l2 : 2 < xs.length := by rw [hxl]; decide
    have l3 : 3 < xs.length := by rw [hxl]; decide
    rw [List.getElem?_eq_getElem l0] at g0
    rw [List.getElem?_eq_getElem l1] at g1
    rw [List.getElem?_eq_getElem l2] at g2
    rw [List.getElem?_eq_getElem l3] at g3
    obtain ⟨dp, e0, _, _⟩ := DataW.trod_int Try.underlying3 g0
    obtain ⟨Aw, cw, ws, e1, hsrc, hsz, _, hbl⟩ := open_words g1
    obtain ⟨op, e3, _⟩ := DataW.trod_bool Try.underlying4 g3
    have e2 : ∃ A k c, c2 = .slice A k c := by
      rcases Go.Deep.open_slice Try.underlying42 g2 with ⟨hcs, _⟩ | ⟨a, len, cap, _, _, _, _, hcs, _⟩
      · exact ⟨none, 0, 0, by simpa using hcs⟩
      · exact ⟨some a, len, cap, by simpa using hcs⟩
    obtain ⟨A, k, c, rfl⟩ := e2
    simp only [List.cons.injEq, and_true] at e0 e1 e3
    subst e0 e1 e3
    have hb : Rows.uptoBulk xs[1].1 ≤ Rows.uptoBulk x.1 := by
      have h1 := bulk_part (List.mem_map.2 ⟨xs[1], List.getElem_mem l1, rfl⟩ : xs[1].1 ∈ xs.map (·.1))
      have h2 := bulk_agg (xs.map (·.1))
      rw [hxe]
      simp only
      omega
    exact ⟨⟨dp, ws, op⟩, _, A, k, c, rfl, ⟨⟨Aw, cw, rfl⟩, fun h0 => ⟨Aw, cw, rfl, hsrc, hbl h0⟩⟩, fun u hu => Nat.le_trans (hsz u hu) hb⟩
theorem flat4 (f : Nat → List Value) (hf : ∀ i, (f i).length = 4) : ∀ (n j : Nat), ((List.range n).flatMap f)[j]? = if j < n * 4 then (f (j / 4))[j % 4]? else none
  | 0, j => by simp
  | n + 1, j => by
    have ih := flat4 f hf n j
    have hl : ((List.range n).flatMap f).length = n * 4 := by
      clear ih
      induction n with
      | zero => rfl
      | succ n ih => rw [List.range_succ, List.flatMap_append, List.length_append, ih]; simp [hf]; omega
    rw [List.range_succ, List.flatMap_append]
    by_cases hj : j < n * 4
    · rw [List.getElem?_append_left (by omega), ih, if_pos hj, if_pos (by omega)]
    · rw [List.getElem?_append_right (by omega), hl]
      simp only [List.flatMap_cons, List.flatMap_nil, List.append_nil]
      by_cases hj2 : j < (n + 1) * 4
      · rw [if_pos hj2, show j / 4 = n by omega, show j - n * 4 = j % 4 by omega]
      · rw [if_neg hj2, List.getElem?_eq_none (by rw [hf]; omega)]
theorem riv_of {B : Nat → Prop} (R : Nat → RowI) (V : Nat → Value) (A : Nat → Option Addr) (k c : Nat → Nat) : ∀ (l : List Nat), (∀ i ∈ l, (∃ Aw cw, V i = .slice Aw (R i).ws.length cw) ∧ ((R i).ws.length ≠ 0 → StrV w B (V i) (R i).ws)) → RiV w B (l.map R) (l.flatMap fun i => rowI (R i) (V i) (A i) (k i) (c i))
  | [], _ => rfl
  | i :: l, h => ⟨V i, A i, k i, c i, _, rfl, h i (by simp), riv_of R V A k c l (fun j hj => h j (by simp [hj]))⟩
/-- rows, as they come in -/
theorem open_rows {fuel : Nat} {cs : List Value} {x : DataW H × List MemPlace} (h : DataW.trod enc Try.prog w 0 (fun _ => true) held fuel 49 cs = some x) :
    ∃ (A : Option Addr) (c : Nat) (L : List RowI) (xs : List Value), cs = [.slice A L.length c] ∧ Src w A L.length c 4 xs ∧ RiV w (fun q => q < w.heap.size) L xs ∧ (∀ r ∈ L, ∀ u ∈ r.ws, u.size ≤ Rows.uptoBulk x.1) ∧ L.length ≤ Rows.uptoBulk x.1 := by
  rcases Go.Deep.open_slice Try.underlying49 h with ⟨hcs, _⟩ | ⟨a, len, cap, m, n, D, Pl, hcs, _, hl, hm, hmm, hx, hi⟩
  · exact ⟨none, 0, [], [], hcs, ⟨rfl, .inl ⟨rfl, rfl, rfl⟩⟩, rfl, fun r hr => (by cases hr), Nat.zero_le _⟩
  · simp only [if_true] at hmm
    have hall : ∀ i, i < len → ∃ (y : RowI × Value × Option Addr × Nat × Nat), (∀ j, j < 4 → w.cell? (a.add (i * 4 + j)) = (rowI y.1 y.2.1 y.2.2.1 y.2.2.2.1 y.2.2.2.2)[j]?) ∧ ((∃ Aw cw, y.2.1 = .slice Aw y.1.ws.length cw) ∧ (y.1.ws.length ≠ 0 → StrV w (fun q => q < w.heap.size) y.2.1 y.1.ws)) ∧ (∀ u ∈ y.1.ws, u.size ≤ Rows.uptoBulk (D i)) := by
      intro i hil
      obtain ⟨cs', hc, ht⟩ := hi i (by omega)
      rw [cellsRow] at hc
      obtain ⟨_, hlen, hat⟩ := World.cells?_some hc
      obtain ⟨r, vw, A, k, c, rfl, h1, h2⟩ := open_rowI ht
      exact ⟨(r, vw, A, k, c), fun j hj => by rw [← Go.Deep.add_add]; exact hat j hj, h1, h2⟩
    obtain ⟨y, hy⟩ : ∃ y : Nat → RowI × Value × Option Addr × Nat × Nat, ∀ i, i < len → (∀ j, j < 4 → w.cell? (a.add (i * 4 + j)) = (rowI (y i).1 (y i).2.1 (y i).2.2.1 (y i).2.2.2.1 (y i).2.2.2.2)[j]?) ∧ ((∃ Aw cw, (y i).2.1 = .slice Aw (y i).1.ws.length cw) ∧ ((y i).1.ws.length ≠ 0 → StrV w (fun q => q < w.heap.size) (y i).2.1 (y i).1.ws)) ∧ (∀ u ∈ (y i).1.ws, u.size ≤ Rows.uptoBulk (D i)) := by
      classical
      refine ⟨fun i => if hi : i < len then Classical.choose (hall i hi) else (⟨0, [], false⟩, .nilIface, none, 0, 0), fun i hi => ?_⟩
      simp only [dif_pos hi]
      exact Classical.choose_spec (hall i hi)
    have hlen : ((List.range len).map fun i => (y i).1).length = len := by simp
    have hfl := flat4 (fun i => rowI (y i).1 (y i).2.1 (y i).2.2.1 (y i).2.2.2.1 (y i).2.2.2.2) (fun _ => rfl)
    have hxl : ((List.range len).flatMap fun i => rowI (y i).1 (y i).2.1 (y i).2.2.1 (y i).2.2.2.1 (y i).2.2.2.2).length = len * 4 := by
      have h1 := (riv_of (w := w) (fun i => (y i).1) (fun i => (y i).2.1) (fun i => (y i).2.2.1) (fun i => (y i).2.2.2.1) (fun i => (y i).2.2.2.2) (List.range len) (fun i hi => (hy i (List.mem_range.1 hi)).2.1))
      clear hfl hx hi hmm hcs hall hlen h1 hy
      induction len with
      | zero => rfl
      | succ n ih => rw [List.range_succ, List.flatMap_append, List.length_append, ih (by omega)]; simp [rowI]; omega
    refine ⟨some a, cap, (List.range len).map (fun i => (y i).1), (List.range len).flatMap fun i => rowI (y i).1 (y i).2.1 (y i).2.2.1 (y i).2.2.2.1 (y i).2.2.2.2, by rw [hlen]; exact hcs, ⟨by rw [hlen, hxl], .inr ⟨a, rfl, fun j u hj => ?_⟩⟩, riv_of _ _ _ _ _ _ (fun i hi => (hy i (List.mem_range.1 hi)).2.1), fun r hr u hu => ?_, ?_⟩
    · rw [hfl] at hj
      by_cases hjl : j < len * 4
      · rw [if_pos hjl] at hj
        have h1 := (hy (j / 4) (by omega)).1 (j % 4) (Nat.mod_lt _ (by omega))
        rw [show j / 4 * 4 + j % 4 = j by omega, hj] at h1
        exact h1
      · rw [if_neg hjl] at hj; cases hj
    · obtain ⟨i, hir, rfl⟩ := List.mem_map.1 hr
      have hil := List.mem_range.1 hir
      have h1 := (hy i hil).2.2 u hu
      have h2 := bulk_part (H := H) (d := D i) (l := (List.range len).map D) (List.mem_map.2 ⟨i, hir, rfl⟩)
      have h3 := fun sp => bulk_elems ((List.range len).map D) sp
      rw [hx]
      simp only
      exact Nat.le_trans h1 (Nat.le_trans h2 (Nat.le_trans (Nat.le_succ _) (h3 _)))
    · rw [hlen, hx]
      have h1 := bulk_len ((List.range len).map D)
      rw [List.length_map, List.length_range] at h1
      have h3 := fun sp => bulk_elems ((List.range len).map D) sp
      simp only
      exact Nat.le_trans h1 (Nat.le_trans (Nat.le_succ _) (h3 _))
end
/-- there is an input that fits, at a world that is written out -/
theorem witness_cond {H : Type} {enc : TypeId × Value → H} {C : Checked} {os : Os} {f : FuncId} {fn : Func} {s : OpenSpec} {conds : List PathCond} {apart : Bool} {laid : List (String × DataW Unit)} (w0 : World) (args : Array Value) (hos : w0.os = os)
    (hsh : (w0.forCall (fun _ _ => 0) ⟨#[], args, []⟩).Shaped C.prog)
    (hok : Input.okWideB C.prog (w0.forCall (fun _ _ => 0) ⟨#[], args, []⟩) f ⟨#[], args, []⟩ = true)
    (hrow : s.preRow enc C.prog fn conds apart laid (w0.forCall (fun _ _ => 0) ⟨#[], args, []⟩).memory args) :
    ∃ (w : World) (tape : Tape) (i : Input), w.os = os ∧ (w.forCall tape i).Shaped C.prog ∧ i.vars = [] ∧ Input.okWide C.prog (w.forCall tape i) .any w.heap.size f i ∧
      s.preRow enc C.prog fn conds apart laid (w.forCall tape i).memory i.args ∧ ({} : Assume).holds C.prog (lone (Frame.enter C.prog f i.args .normal) [] (w.forCall tape i)) :=
  ⟨w0, fun _ _ => 0, ⟨#[], args, []⟩, hos, hsh, (Input.okWide_of_okWideB (base := 0) hok).1, (Input.okWide_of_okWideB hok).2, hrow, by
    simp only [Assume.holds]
    exact ⟨by simp, by simp, fun _ => Modest.zero, by simp, by simp⟩⟩
end Go.Proofs.Ytihmmmodimionaa.Tr
