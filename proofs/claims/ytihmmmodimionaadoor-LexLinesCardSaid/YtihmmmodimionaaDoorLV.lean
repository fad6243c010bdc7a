import Derived.Test.YtihmmmodimionaaDoorLU
namespace Go.Proofs.YtihmmmodimionaaDoor.Lx
open Go.RowKit

def VRow (w : World) (v : Value) (n size : Nat) (xs : List Value) : Prop :=
  ∃ A cap, v = .slice A n cap ∧ (0 < n → ∃ g, A = some ⟨g, 0, none⟩ ∧ ∀ j, j < n * size → w.cell? ⟨g, j, none⟩ = xs[j]?)
theorem vrow_own {w : World} {base size n : Nat} {t : TypeId} {v : Value} {xs : List Value} (h : w.ownsRow base t size v n xs) : VRow w v n size xs := by
  rcases h.2 with ⟨rfl, h0⟩ | ⟨g, cap, cur, rfl, h1, h2, h3, h4, h5, h6⟩
  · exact ⟨none, 0, by rw [h0], fun h => by omega⟩
  · exact ⟨_, cap, rfl, fun _ => ⟨g, rfl, fun j hj => h.cellAt j hj⟩⟩
def LinesAt (w : World) (v : Value) (bs : List BLn) : Prop :=
  VRow w v bs.length 2 (bs.flatMap BLn.cells) ∧ ∀ x ∈ bs, VRow w x.v x.ws.length 3 (x.ws.flatMap (BWd.cells x.l))
theorem flatL_at (bs : List BLn) (i : Nat) (h : i < bs.length) : (bs.flatMap BLn.cells)[i * 2]? = some (.int .i64 bs[i].ind) ∧ (bs.flatMap BLn.cells)[i * 2 + 1]? = some bs[i].v := by
  induction bs generalizing i with
  | nil => simp at h
  | cons x xs ih =>
    cases i with
    | zero => exact ⟨rfl, rfl⟩
    | succ i =>
      have := ih i (by simpa using h)
      have e : (i + 1) * 2 = i * 2 + 2 := by omega
      have e1 : (i + 1) * 2 + 1 = (i * 2 + 1) + 2 := by omega
      rw [e1, e]
      simp only [List.flatMap_cons, BLn.cells, List.cons_append, List.nil_append, List.getElem?_cons_succ, List.getElem_cons_succ]
      exact this
theorem flatW_at (l : Int) (bs : List BWd) (i : Nat) (h : i < bs.length) : (bs.flatMap (BWd.cells l))[i * 3]? = some (.string bs[i].b) ∧ (bs.flatMap (BWd.cells l))[i * 3 + 1]? = some (.int .i64 l) ∧ (bs.flatMap (BWd.cells l))[i * 3 + 2]? = some (.int .i64 bs[i].c) := by
  induction bs generalizing i with
  | nil => simp at h
  | cons x xs ih =>
    cases i with
    | zero => exact ⟨rfl, rfl, rfl⟩
    | succ i =>
      have := ih i (by simpa using h)
      have e : (i + 1) * 3 = i * 3 + 3 := by omega
      have e1 : (i + 1) * 3 + 1 = (i * 3 + 1) + 3 := by omega
      have e2 : (i + 1) * 3 + 2 = (i * 3 + 2) + 3 := by omega
      rw [e1, e2, e]
      simp only [List.flatMap_cons, BWd.cells, List.cons_append, List.nil_append, List.getElem?_cons_succ, List.getElem_cons_succ]
      exact this

set_option maxRecDepth 100000 in
set_option maxHeartbeats 2000000 in
theorem same_lines (w : World) (va vb : Value) (as_ bs : List BLn) (ha : LinesAt w va as_) (hb : LinesAt w vb bs) (heq : as_.map BLn.ln = bs.map BLn.ln) (hlen : as_.length ≤ 65537) (hws : ∀ x ∈ as_, x.ws.length ≤ 65537) :
    Calls Tryd.prog 10 #[va, vb] w fun e w' => e = .returned (.bool true) ∧ Below w.heap.size w w' := by
  obtain ⟨⟨A, ca, rfl, hA⟩, hAi⟩ := ha
  obtain ⟨⟨B, cb, rfl, hB⟩, hBi⟩ := hb
  have hll : as_.length = bs.length := by have := congrArg List.length heq; simpa using this
  rw [← hll] at hB
  rw [← hll]
  have hpair : ∀ (i : Nat) (h : i < as_.length), ∃ (ind l : Int) (ws : List BWd) (A1 B1 : Option Addr) (c1 d1 : Nat), (as_.flatMap BLn.cells)[i * 2]? = some (.int .i64 ind) ∧ (as_.flatMap BLn.cells)[i * 2 + 1]? = some (.slice A1 ws.length c1) ∧ (bs.flatMap BLn.cells)[i * 2]? = some (.int .i64 ind) ∧ (bs.flatMap BLn.cells)[i * 2 + 1]? = some (.slice B1 ws.length d1) ∧ ws.length ≤ 65537 ∧
      (0 < ws.length → ∃ g, A1 = some ⟨g, 0, none⟩ ∧ ∀ j, j < ws.length * 3 → w.cell? ⟨g, j, none⟩ = (ws.flatMap (BWd.cells l))[j]?) ∧ (0 < ws.length → ∃ g, B1 = some ⟨g, 0, none⟩ ∧ ∀ j, j < ws.length * 3 → w.cell? ⟨g, j, none⟩ = (ws.flatMap (BWd.cells l))[j]?) := by
    intro i h
    have h' : i < bs.length := by omega
    obtain ⟨a0, a1⟩ := flatL_at as_ i h
    obtain ⟨b0, b1⟩ := flatL_at bs i h'
    obtain ⟨A1, c1, e1, hc1⟩ := hAi as_[i] (List.getElem_mem h)
    obtain ⟨B1, d1, e2, hd1⟩ := hBi bs[i] (List.getElem_mem h')
    have he : (as_[i]).ln = (bs[i]).ln := by
      have h1 : (as_.map BLn.ln)[i]? = (bs.map BLn.ln)[i]? := by rw [heq]
      rw [List.getElem?_map, List.getElem?_map, List.getElem?_eq_getElem h, List.getElem?_eq_getElem h'] at h1
      simpa using h1
    have hw := hws as_[i] (List.getElem_mem h)
    generalize as_[i] = x at *
    generalize bs[i] = y at *
    obtain ⟨xi, xl, xv, xw⟩ := x
    obtain ⟨yi, yl, yv, yw⟩ := y
    simp only [BLn.ln, Ln.mk.injEq] at he
    obtain ⟨rfl, rfl, he⟩ := he
    have he := wd_inj he
    subst he
    simp only at e1 e2 a0 a1 b0 b1 hc1 hd1 hw
    subst e1 e2
    exact ⟨xi, xl, xw, A1, B1, c1, d1, a0, a1, b0, b1, hw, hc1, hd1⟩
  clear hAi hBi heq hll hws
  generalize as_.flatMap BLn.cells = xs at *
  generalize bs.flatMap BLn.cells = ys at *
  generalize as_.length = n at *
  have HP := hide hpair
  clear hpair
  go_enter Tryd.func10, Tryd.ntmps10
  go_wp2_with fail
  go_loopw [5] (fun j wr => ∃ i : Nat, i ≤ n ∧ j = .int .i64 i ∧ Below w.heap.size w wr) (fun j _ => n - (intOf j).toNat)
  case atStart => exact ⟨0, Nat.zero_le _, rfl, Below.refl _ _⟩
  case round =>
    obtain ⟨i, hi, rfl, hbl⟩ := hrel
    have HBW := hide hbl
    clear hbl
    by_cases hlt : i < n
    case neg =>
      go_wp2_with fail
      go_ret
      exact ⟨rfl, HBW.out⟩
    obtain ⟨g, rfl, hg⟩ := hA (by omega)
    obtain ⟨g', rfl, hg'⟩ := hB (by omega)
    obtain ⟨ind, l, ws, A1, B1, c1, d1, e0, e1, e2, e3, hwl, hwa, hwb⟩ := HP.out i hlt
    have h0 := hg (i * 2) (by omega)
    have h1 := hg (i * 2 + 1) (by omega)
    have k0 := hg' (i * 2) (by omega)
    have k1 := hg' (i * 2 + 1) (by omega)
    rw [e0] at h0
    rw [e1] at h1
    rw [e2] at k0
    rw [e3] at k1
    have H0 := hide h0
    have H1 := hide h1
    have K0 := hide k0
    have K1 := hide k1
    have q0 := lat_cell (cellB HBW.out h0)
    have q1 := lat_cell (cellB HBW.out h1)
    have r0 := lat_cell (cellB HBW.out k0)
    have r1 := lat_cell (cellB HBW.out k1)
    clear h0 h1 k0 k1 hg hg' e0 e1 e2 e3 hA hB
    have hwn : (ws.length : Int) ≤ 65537 := by omega
    go_wp2_with fail
    refine wp_region_lat (by kernel_rfl) (by kernel_rfl) ?_
    repeat (first | go_big_quiet_step ((fail)) | quiet_step ((fail)))
    refine wpQuiet_nil ?_
    intro _ hlat
    obtain ⟨wq, rfl⟩ := hlat
    have HBW2 := hide (HBW.out.trans (lat_below wr wq |>.mono HBW.out.size))
    generalize lat wr wq = w2 at *
    clear q0 q1 r0 r1 HBW
    go_wp2_with fail
    go_loopw [6] (fun j wr => ∃ k : Nat, k ≤ ws.length ∧ j = .int .i64 k ∧ Below w.heap.size w wr) (fun j _ => ws.length - (intOf j).toNat)
    case atStart => exact ⟨0, Nat.zero_le _, rfl, HBW2.out⟩
    case round =>
      clear HBW2
      obtain ⟨k, hk, rfl, hbl⟩ := hrel
      have HBW := hide hbl
      clear hbl
      have s1 := cellB HBW.out H1.out
      by_cases hkl : k < ws.length
      case neg =>
        go_wp2_with fail
        exact ⟨⟨i + 1, by omega, by go_num, HBW.out⟩, by simp [intOf]; omega⟩
      obtain ⟨ga, rfl, hga⟩ := hwa (by omega)
      obtain ⟨gb, rfl, hgb⟩ := hwb (by omega)
      obtain ⟨f0, f1, f2⟩ := flatW_at l ws k hkl
      have a0 := hga (k * 3) (by omega)
      have a1 := hga (k * 3 + 1) (by omega)
      have a2 := hga (k * 3 + 2) (by omega)
      have b0 := hgb (k * 3) (by omega)
      have b1 := hgb (k * 3 + 1) (by omega)
      have b2 := hgb (k * 3 + 2) (by omega)
      rw [f0] at a0 b0
      rw [f1] at a1 b1
      rw [f2] at a2 b2
      have q1 := lat_cell (cellB HBW.out H1.out)
      have r1 := lat_cell (cellB HBW.out K1.out)
      have a0 := lat_cell (cellB HBW.out a0)
      have a1 := lat_cell (cellB HBW.out a1)
      have a2 := lat_cell (cellB HBW.out a2)
      have b0 := lat_cell (cellB HBW.out b0)
      have b1 := lat_cell (cellB HBW.out b1)
      have b2 := lat_cell (cellB HBW.out b2)
      clear hga hgb f0 f1 f2 hwa hwb
      go_wp2_with fail
      refine wp_region_lat (by kernel_rfl) (by kernel_rfl) ?_
      repeat (first | go_big_quiet_step ((exact calls_lat (same_pos _ _ _))) | quiet_step ((exact calls_lat (same_pos _ _ _))))
      refine wpQuiet_nil ?_
      intro _ hlat
      obtain ⟨wq, rfl⟩ := hlat
      go_wp2_with fail
      go_roundw
      case rel => exact ⟨k + 1, by omega, by go_num, HBW.out.trans (lat_below _ _ |>.mono HBW.out.size)⟩
      case measure => simp [intOf]; omega
end Go.Proofs.YtihmmmodimionaaDoor.Lx
