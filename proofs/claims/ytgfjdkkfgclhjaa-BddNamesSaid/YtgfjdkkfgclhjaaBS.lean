/- over, Exists, Forall. -/
import Derived.Test.YtgfjdkkfgclhjaaBR
import Derived.Test.YtgfjdkkfgclhjaaPO
namespace Go.Proofs.Ytgfjdkkfgclhjaa.Bd
open Go.RowKit Go.Proofs.Ytgfjdkkfgclhjaa Go.Proofs.Ytgfjdkkfgclhjaa.Lx Go.Maps

/-- what is asked of a function that joins two parts -/
def JoinOK (S : Nat → Bool) (J : Bool → Bool → Bool) (k0 : Blk) (w0 : World) (M : FuncId) (caps : Array Value) : Prop :=
  ∀ (k : Blk) (s : St) (w : World) (r1 r2 t1 t2 : Nat) (G H : Env → Bool), Turn k0 k w0 w → Ar w k s → Den S s.nd r1 t1 G → Den S s.nd r2 t2 H → s.m + 2 ^ (nS S (min t1 t2) + 1) ≤ 1000000000 →
    Calls Try.prog M (#[.int .i32 r1, .int .i32 r2] ++ caps) w (NodeOut k s w (2 ^ (nS S (min t1 t2) + 1)) (fun nd' r => ∃ t', min t1 t2 ≤ t' ∧ Den S nd' r t' (fun ρ => J (G ρ) (H ρ))))
theorem JoinOK.turn {S : Nat → Bool} {J : Bool → Bool → Bool} {k0 k1 : Blk} {w0 w1 : World} {M : FuncId} {caps : Array Value} (h : JoinOK S J k0 w0 M caps) (T : Turn k0 k1 w0 w1) : JoinOK S J k1 w1 M caps :=
  fun k s w r1 r2 t1 t2 G H T1 => h k s w r1 r2 t1 t2 G H (T.trans T1)
theorem call_exists (xs : Array Value) (w : World) : (callFunc 45 xs).run Try.prog w = .ok (.enter 45 xs) w :=
  call_enter Try.func45 (by kernel_rfl) (by kernel_rfl) xs w
theorem call_forall (xs : Array Value) (w : World) : (callFunc 46 xs).run Try.prog w = .ok (.enter 46 xs) w :=
  call_enter Try.func46 (by kernel_rfl) (by kernel_rfl) xs w
theorem call_over (xs : Array Value) (w : World) : (callFunc 58 xs).run Try.prog w = .ok (.enter 58 xs) w :=
  call_enter Try.func58 (by kernel_rfl) (by kernel_rfl) xs w
set_option maxRecDepth 100000 in
theorem exists_join (S : Nat → Bool) (k0 : Blk) (w0 : World) (b : Nat) (c : w0.cell? ⟨b, 0, none⟩ = some (.pointer (some ⟨k0.p, 0, none⟩))) (n : ¬ fp k0 b) : JoinOK S (fun a b => a || b) k0 w0 45 #[.pointer (some ⟨b, 0, none⟩)] := by
  intro k s w r1 r2 t1 t2 G H T hA d1 d2 hm
  have e1 := T.cell c n
  rw [← T.p] at e1
  have h1 := d1.top.1
  have h2 := d2.top.1
  have et : min t1 (min 256 t2) = min t1 t2 := by omega
  have HI := hide (ite_any S k s r1 1 r2 t1 256 t2 G _ H w hA d1 .one d2 (by rw [et]; exact hm))
  rw [et] at HI
  have HQ : Hid (∀ (e : Ending) (w' : World), NodeOut k s w (2 ^ (nS S (min t1 t2) + 1)) (fun nd' r => OkIte s.nd nd' r1 1 r2 r) e w' → ∃ r : Nat, e = .returned (.int .i32 (r : Nat)) ∧ NodeOut k s w (2 ^ (nS S (min t1 t2) + 1)) (fun nd' r => ∃ t', min t1 t2 ≤ t' ∧ Den S nd' r t' (fun ρ => G ρ || H ρ)) (.returned (.int .i32 (r : Nat))) w') := by
    rintro e w' ⟨k', s', r, he, hA', hT', hU', hm', ho⟩
    refine ⟨r, he, k', s', r, rfl, hA', hT', hU', hm', ?_⟩
    obtain ⟨t', ht, d⟩ := ho S _ _ _ _ _ _ d1 .one d2
    have e : (fun ρ => G ρ || H ρ) = fun ρ => if G ρ then true else H ρ := by funext ρ; cases G ρ <;> simp
    exact ⟨t', by omega, by rw [e]; exact d⟩
  clear hA T d1 d2 hm
  show Calls Try.prog 45 #[.int .i32 r1, .int .i32 r2, .pointer (some ⟨b, 0, none⟩)] w _
  generalize 2 ^ (nS S (min t1 t2) + 1) = R at *
  go_enter Try.func45, Try.ntmps45
  go_wp2_with fail
  refine HI.out.mono ?_
  intro e w1 hh
  obtain ⟨r, rfl, hN⟩ := HQ.out e w1 hh
  have HN := hide hN
  clear hN hh
  go_wp2_with fail
  go_ret
  exact HN.out
set_option maxRecDepth 100000 in
theorem forall_join (S : Nat → Bool) (k0 : Blk) (w0 : World) (b : Nat) (c : w0.cell? ⟨b, 0, none⟩ = some (.pointer (some ⟨k0.p, 0, none⟩))) (n : ¬ fp k0 b) : JoinOK S (fun a b => a && b) k0 w0 46 #[.pointer (some ⟨b, 0, none⟩)] := by
  intro k s w r1 r2 t1 t2 G H T hA d1 d2 hm
  have e1 := T.cell c n
  rw [← T.p] at e1
  have h1 := d1.top.1
  have h2 := d2.top.1
  have et : min t1 (min t2 256) = min t1 t2 := by omega
  have HI := hide (ite_any S k s r1 r2 0 t1 t2 256 G H _ w hA d1 d2 .zero (by rw [et]; exact hm))
  rw [et] at HI
  have HQ : Hid (∀ (e : Ending) (w' : World), NodeOut k s w (2 ^ (nS S (min t1 t2) + 1)) (fun nd' r => OkIte s.nd nd' r1 r2 0 r) e w' → ∃ r : Nat, e = .returned (.int .i32 (r : Nat)) ∧ NodeOut k s w (2 ^ (nS S (min t1 t2) + 1)) (fun nd' r => ∃ t', min t1 t2 ≤ t' ∧ Den S nd' r t' (fun ρ => G ρ && H ρ)) (.returned (.int .i32 (r : Nat))) w') := by
    rintro e w' ⟨k', s', r, he, hA', hT', hU', hm', ho⟩
    refine ⟨r, he, k', s', r, rfl, hA', hT', hU', hm', ?_⟩
    obtain ⟨t', ht, d⟩ := ho S _ _ _ _ _ _ d1 d2 .zero
    have e : (fun ρ => G ρ && H ρ) = fun ρ => if G ρ then H ρ else false := by funext ρ; cases G ρ <;> simp
    exact ⟨t', by omega, by rw [e]; exact d⟩
  clear hA T d1 d2 hm
  show Calls Try.prog 46 #[.int .i32 r1, .int .i32 r2, .pointer (some ⟨b, 0, none⟩)] w _
  generalize 2 ^ (nS S (min t1 t2) + 1) = R at *
  go_enter Try.func46, Try.ntmps46
  go_wp2_with fail
  refine HI.out.mono ?_
  intro e w1 hh
  obtain ⟨r, rfl, hN⟩ := HQ.out e w1 hh
  have HN := hide hN
  clear hN hh
  go_wp2_with fail
  go_ret
  exact HN.out
/-- the array of 256 bools -/
def Flags (w : World) (b : Nat) (O : Nat → Bool) : Prop := ∃ cur : Array Value, w.heap[b]? = some (.cells cur 95 (0, 0)) ∧ ∀ j, j < 256 → cur[j]? = some (.bool (O j))
theorem Flags.cell {w : World} {b : Nat} {O : Nat → Bool} (h : Flags w b O) {j : Nat} (hj : j < 256) : w.cell? ⟨b, j, none⟩ = some (.bool (O j)) := by
  obtain ⟨cur, h1, h2⟩ := h
  exact cell_heap h1 (h2 j hj)
theorem Flags.put {w : World} {b : Nat} {O : Nat → Bool} (h : Flags w b O) {x : Nat} : Flags (w.setCell ⟨b, x, none⟩ (.bool true)) b (fun y => decide (y = x) || O y) := by
  obtain ⟨cur, h1, h2⟩ := h
  refine ⟨cur.setIfInBounds x (.bool true), heap_set h1, fun j hj => ?_⟩
  have := h2 j hj
  by_cases e : j = x
  · subst e
    have hlt : j < cur.size := by
      rcases Nat.lt_or_ge j cur.size with h' | h'
      · exact h'
      · rw [Array.getElem?_eq_none h'] at this; cases this
    simp [Array.getElem?_setIfInBounds, hlt]
  · rw [Array.getElem?_setIfInBounds_ne (Ne.symm e), this]
    simp [e]
theorem Flags.kept {w w' : World} {b : Nat} {O : Nat → Bool} (h : Flags w b O) (hb : w'.heap[b]? = w.heap[b]?) : Flags w' b O := by
  obtain ⟨cur, h1, h2⟩ := h
  exact ⟨cur, hb.trans h1, h2⟩

set_option maxHeartbeats 2000000 in
set_option maxRecDepth 100000 in
theorem over_made (S : Nat → Bool) (J : Bool → Bool → Bool) (hJ : Joins J) (O : Nat → Bool) (nd0 : List Nd) (k0 : Blk) (w0 : World) (M : FuncId) (caps : Array Value) (b1 b2 b3 : Nat) (hcall : ∀ (xs : Array Value) (w : World), (callFunc M xs).run Try.prog w = .ok (.enter M xs) w) (hF : Flags w0 b1 O) (c2 : w0.cell? ⟨b2, 0, none⟩ = some (.func (.func M) #[] caps)) (c3 : w0.cell? ⟨b3, 0, none⟩ = some (.pointer (some ⟨k0.p, 0, none⟩)))
    (n1 : ¬ fp k0 b1) (n2 : ¬ fp k0 b2) (n3 : ¬ fp k0 b3) (HJ : JoinOK S J k0 w0 M caps) :
    MadeOK S nd0 (fun _ => S) leB (overT J O) k0 w0 58 #[.pointer (some ⟨b1, 0, none⟩), .pointer (some ⟨b2, 0, none⟩), .pointer (some ⟨b3, 0, none⟩)] := by
  intro k s w v tl th r1 r2 t1 t2 Fl Fh T0 hA hex hv hS h1 h2 l1 d1 l2 d2 i1 i2 hm
  have hp := pow_four (nS S v)
  have lt1 : b1 < w0.heap.size := lt_of_cell (hF.cell (j := 0) (by omega))
  have e1 := (hF.kept (T0.block _ lt1 n1)).cell hv
  have e2 := T0.cell c2 n2
  have e3 := T0.cell c3 n3
  rw [← T0.p] at e3
  unfold leB at l1 l2
  have eT := overT_node hJ (O := O) hv i1 i2
  show Calls Try.prog 58 #[.int .i32 v, .int .i32 r1, .int .i32 r2, .pointer (some ⟨b1, 0, none⟩), .pointer (some ⟨b2, 0, none⟩), .pointer (some ⟨b3, 0, none⟩)] w _
  rw [eT]
  cases hO : O v
  · simp only [Bool.false_eq_true, if_false]
    rw [hO] at e1
    have HM := hide (mk_any k s v r1 r2 w hA (by omega) S t1 t2 _ _ d1 d2 (by omega) (by omega) hv hS)
    generalize 2 ^ (nS S v + 2) = R at *
    have HQ : Hid (∀ (e : Ending) (w' : World), (∃ k' s' r, e = .returned (.int .i32 (r : Nat)) ∧ Ar w' k' s' ∧ Turn k k' w w' ∧ Up s s' ∧ s'.m ≤ s.m + 1 ∧ OkMk s.nd s'.nd v r1 r2 r) → ∃ r : Nat, e = .returned (.int .i32 (r : Nat)) ∧ NodeOut k s w R (fun nd' r => ∃ t', leB v t' ∧ Den S nd' r t' (fun ρ => if ρ v then overT J O Fh ρ else overT J O Fl ρ)) (.returned (.int .i32 (r : Nat))) w') := by
      rintro e w' ⟨k', s', r, he, hA', hT', hU', hm', ho⟩
      refine ⟨r, he, k', s', r, rfl, hA', hT', hU', by omega, ?_⟩
      obtain ⟨t', ht, d⟩ := ho S _ _ _ _ hS d1 d2
      exact ⟨t', ht, d⟩
    clear hA T0 d1 d2 i1 i2 hex hF HJ eT hcall e2
    go_enter Try.func58, Try.ntmps58
    go_wp2_with fail
    refine HM.out.mono ?_
    intro e w1 hh
    obtain ⟨r, rfl, hN⟩ := HQ.out e w1 hh
    have HN := hide hN
    clear hN hh
    go_wp2_with fail
    go_ret
    exact HN.out
  · simp only [if_true]
    rw [hO] at e1
    have hst := nS_step S hv
    rw [hS, if_pos rfl] at hst
    have hle := nS_le S (show v + 1 ≤ min t1 t2 by omega)
    have hpw : 2 ^ (nS S (min t1 t2) + 1) ≤ 2 ^ (nS S v + 2) := Nat.pow_le_pow_right (by omega) (by omega)
    have HM := hide (HJ k s w r1 r2 t1 t2 _ _ T0 hA d1 d2 (by omega))
    generalize 2 ^ (nS S v + 2) = R at *
    generalize 2 ^ (nS S (min t1 t2) + 1) = R2 at *
    have HQ : Hid (∀ (e : Ending) (w' : World), NodeOut k s w R2 (fun nd' r => ∃ t', min t1 t2 ≤ t' ∧ Den S nd' r t' (fun ρ => J (overT J O Fl ρ) (overT J O Fh ρ))) e w' → ∃ r : Nat, e = .returned (.int .i32 (r : Nat)) ∧ NodeOut k s w R (fun nd' r => ∃ t', leB v t' ∧ Den S nd' r t' (fun ρ => J (overT J O Fl ρ) (overT J O Fh ρ))) (.returned (.int .i32 (r : Nat))) w') := by
      rintro e w' ⟨k', s', r, he, hA', hT', hU', hm', t', ht, d⟩
      exact ⟨r, he, k', s', r, rfl, hA', hT', hU', by omega, t', by unfold leB; omega, d⟩
    clear hA T0 d1 d2 i1 i2 hex hF HJ eT e3
    go_enter Try.func58, Try.ntmps58
    go_wp2_with ((with_reducible refine HM.out.mono ?_); intro e w1 hh; obtain ⟨r, he, hN⟩ := HQ.out e w1 hh; subst he; have HN := hide hN; clear hN hh)
    go_ret
    exact HN.out
end Go.Proofs.Ytgfjdkkfgclhjaa.Bd
