/- each, whole. -/
import Derived.Test.YtgfjdkkfgclhjaaBN
namespace Go.Proofs.Ytgfjdkkfgclhjaa.Bd
open Go.RowKit Go.Proofs.Ytgfjdkkfgclhjaa Go.Proofs.Ytgfjdkkfgclhjaa.Lx Go.Maps

section
variable {P : Program} {w : World} {k e t : TypeId} {q : IntKind} {b n N : Nat} {α : Type} {en : α → Value} {ops : Array Oper} {rest : List Oper} {o : Oper} {a : Act} {Q : Exit → Act → World → Prop}
theorem wpList_insI [DecidableEq α] (hg : o.guard = none) (m x v : Operand) (hop : o.op = Op.insert t m x v) {f : α → Option Int} (h : MInt P w k e q b n en f) (K : Keyed P k) (ht : P.underlying t = some (.map k e)) (he : P.underlying e = some (.int q)) (hn : n < maxLen) (inj : ∀ x y, en x = en y → x = y)
    (hm : a.eval m = .map (some b)) (key : α) (kl : Lit) (hx : a.eval x = en key) (hkey : keyOf P k (en key) = some kl) (c : Int) (hv : a.eval v = .int q c) (hc : (Lit.int q c).wf = true)
    (hK : ∀ w', MInt P w' k e q b (n + 1) en (fun x => if x = key then some c else f x) → w.mapTurned w' b → wpList P ops Q rest (a.put o.dst undef) w') : wpList P ops Q (o :: rest) a w := by
  refine wpList_plain hg fun K' hK' => ?_
  obtain ⟨w', hrun, r1, r2⟩ := h.store K ht he hn inj hkey hc
  unfold Oper.wp
  simp [execOp, hop, hm, hx, hv, hrun, Result.andThen]
  exact hK' _ _ (hK w' r1 r2)
end
def fd0 : Int → Option Int := fun x => if x = 1 then some 1 else if x = 0 then some 0 else none
theorem es_start {w w1 w2 : World} {p : Nat} {M : FuncId} {caps : Array Value} (ht1 : World.mapTurned (((w.alloc (.cells #[.pointer (some ⟨p, 0, none⟩)] 24)).alloc (.cells #[.func (.func M) #[] caps] 83)).alloc (.map #[] 0)) w1 (w.heap.size + 2)) (ht2 : w1.mapTurned w2 (w.heap.size + 2))
    (hm : MInt Try.prog w2 21 21 .i32 (w.heap.size + 2) 2 enc3 fd0) :
    Es ((w2.alloc (.cells #[.map (some (w.heap.size + 2))] 79)).alloc (.cells #[(.func (.func 56) #[] #[.pointer (some ⟨w2.heap.size, 0, none⟩), .pointer (some ⟨w.heap.size, 0, none⟩), .pointer (some ⟨w2.heap.size + 1, 0, none⟩), .pointer (some ⟨w.heap.size + 1, 0, none⟩)])] 92))
      p w2.heap.size w.heap.size (w2.heap.size + 1) (w.heap.size + 1) (w.heap.size + 2) 2 M caps fd0 ∧ w.heap.size + 3 ≤ w2.heap.size ∧
    Below w.heap.size w ((w2.alloc (.cells #[.map (some (w.heap.size + 2))] 79)).alloc (.cells #[(.func (.func 56) #[] #[.pointer (some ⟨w2.heap.size, 0, none⟩), .pointer (some ⟨w.heap.size, 0, none⟩), .pointer (some ⟨w2.heap.size + 1, 0, none⟩), .pointer (some ⟨w.heap.size + 1, 0, none⟩)])] 92)) := by
  have hg := (ht1.trans ht2).grown
  have hs := hg.size
  simp only [World.size_alloc] at hs
  have c2 : w2.heap[w.heap.size]? = some (.cells #[.pointer (some ⟨p, 0, none⟩)] 24 (0, 0)) := heap_grown (heap_old (heap_old (heap_new _ _))) hg (opt_ne (by omega))
  have c4 : w2.heap[w.heap.size + 1]? = some (.cells #[.func (.func M) #[] caps] 83 (0, 0)) := by
    have := heap_new (w.alloc (.cells #[.pointer (some ⟨p, 0, none⟩)] 24)) (.cells #[.func (.func M) #[] caps] 83)
    rw [show (w.alloc (.cells #[.pointer (some ⟨p, 0, none⟩)] 24)).heap.size = w.heap.size + 1 by simp] at this
    exact heap_grown (heap_old this) hg (opt_ne (by omega))
  have hb : Below w.heap.size w w2 := ((((Below.refl _ w).alloc (Nat.le_refl _) _).alloc (by simp) _).alloc (by simp; omega) _).grown hg (by simp; omega) (fun b e => by injection e with e; omega)
  refine ⟨⟨heap_old (heap_new _ _), heap_old (heap_old c2), ?_, heap_old (heap_old c4), ?_⟩, by omega, (hb.alloc (by omega) _).alloc (by simp; omega) _⟩
  · have := heap_new (w2.alloc (.cells #[.map (some (w.heap.size + 2))] 79)) (.cells #[(.func (.func 56) #[] #[.pointer (some ⟨w2.heap.size, 0, none⟩), .pointer (some ⟨w.heap.size, 0, none⟩), .pointer (some ⟨w2.heap.size + 1, 0, none⟩), .pointer (some ⟨w.heap.size + 1, 0, none⟩)])] 92)
    rw [show (w2.alloc (.cells #[.map (some (w.heap.size + 2))] 79)).heap.size = w2.heap.size + 1 by simp] at this
    exact this
  · exact (hm.kept (World.grownBy_alloc _ _ none) (by simp)).kept (World.grownBy_alloc _ _ none) (by simp)
theorem fd0_eq : (fun x : Int => if x = 1 then some (1 : Int) else if x = 0 then some 0 else none) = fd0 := rfl
theorem done_start {S : Nat → Bool} {nd0 : List Nd} {S' : Nat → Nat → Bool} {bd : Nat → Nat → Prop} {T : (Env → Bool) → Env → Bool} (h2 : 2 ≤ nd0.length) (h0 : bd 256 256) (t0 : T (fun _ => false) = fun _ => false) (t1 : T (fun _ => true) = fun _ => true) : DoneOK S nd0 S' bd T nd0 fd0 := by
  refine ⟨rfl, rfl, fun x c hc => ?_⟩
  unfold fd0 at hc
  split at hc
  · rename_i e
    cases hc
    refine ⟨1, 1, e, rfl, by omega, fun t F d => ?_⟩
    obtain ⟨rfl, rfl⟩ := d.det .one
    exact ⟨256, h0, by rw [t1]; exact .one⟩
  · split at hc
    · rename_i e
      cases hc
      refine ⟨0, 0, e, rfl, by omega, fun t F d => ?_⟩
      obtain ⟨rfl, rfl⟩ := d.det .zero
      exact ⟨256, h0, by rw [t0]; exact .zero⟩
    · cases hc
theorem walk_all (S : Nat → Bool) (nd0 : List Nd) (S' : Nat → Nat → Bool) (bd : Nat → Nat → Prop) (T : (Env → Bool) → Env → Bool) (k0 : Blk) (w0 : World) (M : FuncId) (caps : Array Value) (b1 b2 b3 b4 db : Nat) (HM : MadeOK S nd0 S' bd T k0 w0 M caps) (hW0 : WF nd0) (hcall : ∀ (xs : Array Value) (w : World), (callFunc M xs).run Try.prog w = .ok (.enter M xs) w) : ∀ n, WalkAt S nd0 S' bd T k0 w0 M caps b1 b2 b3 b4 db n := by
  intro n
  induction n with
  | zero => intro f t F k s w N fd h; omega
  | succ n ih => exact walk_step S nd0 S' bd T k0 w0 M caps b1 b2 b3 b4 db n (hide HM) hW0 hcall ih

set_option maxHeartbeats 4000000 in
set_option maxRecDepth 100000 in
/-- a function made anew -/
theorem each_any (S : Nat → Bool) (S' : Nat → Nat → Bool) (bd : Nat → Nat → Prop) (T : (Env → Bool) → Env → Bool) (k : Blk) (s : St) (M : FuncId) (caps : Array Value) (f t : Nat) (F : Env → Bool) (w : World) (hA : Ar w k s) (d : Den S s.nd f t F) (HM : MadeOK S s.nd S' bd T k w M caps) (hcall : ∀ (xs : Array Value) (w : World), (callFunc M xs).run Try.prog w = .ok (.enter M xs) w)
    (h0 : bd 256 256) (t0 : T (fun _ => false) = fun _ => false) (t1 : T (fun _ => true) = fun _ => true) (hm : s.m + nS S t * 2 ^ (nS S t + 2) + 2 ≤ 1000000000) :
    Calls Try.prog 38 #[.pointer (some ⟨k.p, 0, none⟩), .int .i32 f, .func (.func M) #[] caps] w (NodeOut k s w (nS S t * 2 ^ (nS S t + 2) + 2) (fun nd' r => ∃ t', bd t t' ∧ Den (S' t) nd' r t' (T F))) := by
  have hW := hA.wf
  have HD0 := hide (done_start (S := S) (S' := S') hW.two h0 t0 t1)
  have HC := hide (fun b1 b2 b3 b4 db => walk_all S s.nd S' bd T k w M caps b1 b2 b3 b4 db HM hW hcall (f + 1))
  have HF : Hid (∀ i, w.heap.size ≤ i → ¬ fp k i) := by
    obtain ⟨_, _, H, _⟩ := hA
    exact fun i hi hf => by have := H.lt i hf; omega
  have HA := hide hA
  have HDn := hide d
  have hp2 : 2 ^ nS S t ≤ 1000000000 := by
    rcases Nat.eq_zero_or_pos (nS S t) with e | e
    · rw [e]; decide
    · have h1 : 2 ^ nS S t ≤ 2 ^ (nS S t + 2) := Nat.pow_le_pow_right (by omega) (by omega)
      have h2 := Nat.le_mul_of_pos_left (2 ^ (nS S t + 2)) e
      omega
  have HMS := hide (MInt.made (P := Try.prog) ((w.alloc (.cells #[.pointer (some ⟨k.p, 0, none⟩)] 24)).alloc (.cells #[.func (.func M) #[] caps] 83)) 21 21 .i32 enc3)
  have hsz : ((w.alloc (.cells #[.pointer (some ⟨k.p, 0, none⟩)] 24)).alloc (.cells #[.func (.func M) #[] caps] 83)).heap.size = w.heap.size + 2 := by simp
  rw [hsz] at HMS
  have hmm := @run_makeMap Try.prog
  have hk0 := key3 0 (by omega) (by omega)
  have hk1 := key3 1 (by omega) (by omega)
  have hw0 : (Lit.int .i32 0).wf = true := wf3 (by omega) (by omega)
  have hw1 : (Lit.int .i32 1).wf = true := wf3 (by omega) (by omega)
  generalize hn : nS S t = n at *
  have HN := hide hn
  clear hA d HM hcall t0 t1 hn
  go_enter Try.func38, Try.ntmps38
  go_wp2_with (refine wpList_insI rfl (.tmp 9) _ _ rfl HMS.out keyed3 Try.underlying79 Try.underlying21 (by unfold maxLen; omega) enc3_inj rfl (0 : Int) _ rfl hk0 0 rfl hw0 ?_)
  intro w1 hm1 ht1
  have HM1 := hide hm1
  have HT1 := hide ht1
  clear hm1 ht1
  go_wp2_with (refine wpList_insI rfl (.tmp 9) _ _ rfl HM1.out keyed3 Try.underlying79 Try.underlying21 (by unfold maxLen; omega) enc3_inj rfl (1 : Int) _ rfl hk1 1 rfl hw1 ?_)
  intro w2 hm2 ht2
  have HM2 := hide hm2
  have HT2 := hide ht2
  clear hm2 ht2
  have HV := hide (es_start HT1.out HT2.out HM2.out)
  go_wp2_with fail
  have hB := HV.out.2.2
  have hs2 := HV.out.2.1
  have HG := hide (HC.out _ _ _ _ _ f t F k s _ 2 fd0 (by omega) HDn.out (HA.out.below hB) ⟨[], by simp⟩ (Turn.below hB) HV.out.1 HD0.out ⟨HF.out _ (by omega), HF.out _ (by omega), HF.out _ (by omega), HF.out _ (by omega), HF.out _ (by omega), by omega⟩ (by rw [HN.out]; omega) (by rw [HN.out]; omega))
  refine HG.out.mono ?_
  intro e w3 hh
  unfold WalkOut at hh
  obtain ⟨k', s', r, N', fd', rfl, hA', hU', hm', hN', hX', _, _, hr', hg'⟩ := hh
  have HX := hide (show NodeOut k s w (n * 2 ^ (n + 2) + 2) (fun nd' r => ∃ t', bd t t' ∧ Den (S' t) nd' r t' (T F)) (.returned (.int .i32 (r : Nat))) w3 from
    ⟨k', s', r, rfl, hA', hX'.turn (Turn.below hB) (by omega), hU', by rw [HN.out] at hm'; omega, hg' t F HDn.out⟩)
  clear hA' hU' hm' hN' hX' hr' hg' HG HV HT1 HT2 HM1 HM2 HMS
  go_wp2_with fail
  go_ret
  exact HX.out
end Go.Proofs.Ytgfjdkkfgclhjaa.Bd
