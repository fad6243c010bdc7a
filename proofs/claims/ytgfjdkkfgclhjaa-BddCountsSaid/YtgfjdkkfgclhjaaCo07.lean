/- What the claim leans on, part 7 of 8: PE CN PF CR CW. -/
import Derived.Laws.OwnMore
import Derived.OwnWalk
import Derived.Test.YtgfjdkkfgclhjaaSp01
import Derived.Test.YtgfjdkkfgclhjaaSp02
import Derived.Test.YtgfjdkkfgclhjaaSp03
import Derived.Test.YtgfjdkkfgclhjaaSp04
import Derived.Test.YtgfjdkkfgclhjaaSp05
import Derived.Test.YtgfjdkkfgclhjaaSp06
/- The least values for which a function is true, in plain words. No program is in sight. -/
namespace Go.Proofs.Ytgfjdkkfgclhjaa.Bd

/-- down from node i, along the variables of a list: a bit is set only where it must be -/
def lst (nd : List Nd) : List Nat → Nat → List Bool
  | [], _ => []
  | v :: vs, i => match nd[i]? with
    | some (t, lo, hi) => if 2 ≤ i ∧ t = v then decide (lo = 0) :: lst nd vs (if lo = 0 then hi else lo) else false :: lst nd vs i
    | none => false :: lst nd vs i
theorem lst_len (nd : List Nd) : ∀ (vs : List Nat) (i : Nat), (lst nd vs i).length = vs.length := by
  intro vs
  induction vs with
  | nil => intro i; rfl
  | cons v vs ih =>
    intro i
    unfold lst
    split
    · split <;> simp [ih]
    · simp [ih]
theorem lst_hit {nd : List Nd} {v : Nat} {vs : List Nat} {i lo hi : Nat} (h : nd[i]? = some (v, lo, hi)) (h2 : 2 ≤ i) : lst nd (v :: vs) i = decide (lo = 0) :: lst nd vs (if lo = 0 then hi else lo) := by
  rw [lst, h]
  simp only
  rw [if_pos ⟨h2, trivial⟩]
theorem lst_miss {nd : List Nd} {v t : Nat} {vs : List Nat} {i lo hi : Nat} (h : nd[i]? = some (t, lo, hi)) (h2 : ¬ (2 ≤ i ∧ t = v)) : lst nd (v :: vs) i = false :: lst nd vs i := by
  rw [lst, h]
  simp only
  rw [if_neg h2]
/-- values that go along a list -/
def Along (vs : List Nat) (l : List Bool) (n : Nat) (σ : Env) : Prop := ∀ (j v : Nat) (b : Bool), j < n → vs[j]? = some v → l[j]? = some b → σ v = b
theorem Along.tail {v : Nat} {vs : List Nat} {b : Bool} {l : List Bool} {n : Nat} {σ : Env} (h : Along (v :: vs) (b :: l) (n + 1) σ) : σ v = b ∧ Along vs l n σ :=
  ⟨h 0 v b (by omega) rfl rfl, fun j x c hj hx hc => h (j + 1) x c (by omega) (by simpa using hx) (by simpa using hc)⟩
variable {S : Nat → Bool} {nd : List Nd}
/-- .. and the function is true -/
theorem lst_true (hw : WF nd) : ∀ (vs : List Nat) (i t : Nat) (G : Env → Bool) (σ : Env), Den S nd i t G → Rise vs → (∀ x, S x = true → t ≤ x → x < 256 → x ∈ vs) → i ≠ 0 → Along vs (lst nd vs i) vs.length σ → G σ = true := by
  intro vs
  induction vs with
  | nil =>
    intro i t G σ d _ hin hi _
    rcases Nat.lt_or_ge i 2 with h2 | h2
    · obtain ⟨_, hG⟩ := d.ends h2
      rw [hG]
      simp; omega
    · obtain ⟨_, _, _, _, _, _, _, _, _, _, _, _, r6, r7, _⟩ := d.row h2
      exact absurd (hin t r7 (Nat.le_refl _) r6) (by simp)
  | cons v vs ih =>
    intro i t G σ d hr hin hi ha
    obtain ⟨hr1, hr2⟩ := List.pairwise_cons.1 hr
    by_cases hc : 2 ≤ i ∧ t = v
    · obtain ⟨h2, rfl⟩ := hc
      obtain ⟨lo, hi', tl, th, Fl, Fh, hrow, r1, r2, r3, r4, r5, r6, r7, dl, dh, rfl⟩ := d.row h2
      rw [lst_hit hrow h2] at ha
      obtain ⟨hv, ha'⟩ := ha.tail
      have hsub : ∀ tt, t < tt → ∀ x, S x = true → tt ≤ x → x < 256 → x ∈ vs := by
        intro tt htt x hx h1 h3
        rcases List.mem_cons.1 (hin x hx (by omega) h3) with e | e
        · omega
        · exact e
      simp only [hv]
      by_cases h0 : lo = 0
      · rw [if_pos h0] at ha'
        simp only [h0, decide_true, if_true]
        exact ih hi' th Fh σ dh hr2 (hsub th r5) (by omega) ha'
      · rw [if_neg h0] at ha'
        simp only [h0, decide_false, Bool.false_eq_true, if_false]
        exact ih lo tl Fl σ dl hr2 (hsub tl r4) h0 ha'
    · have hrow : ∃ lo hi, nd[i]? = some (t, lo, hi) := by
        cases d with
        | zero => exact ⟨_, _, hw.e0⟩
        | one => exact ⟨_, _, hw.e1⟩
        | node h h2 hl hh hne h1 h3 hv hS dl dh => exact ⟨_, _, h⟩
      obtain ⟨lo, hi', hrow⟩ := hrow
      rw [lst_miss hrow hc] at ha
      refine ih i t G σ d hr2 (fun x hx h1 h3 => ?_) hi ha.tail.2
      rcases List.mem_cons.1 (hin x hx h1 h3) with e | e
      · subst e
        exfalso
        rcases Nat.lt_or_ge i 2 with h2 | h2
        · have := (d.ends h2).1; omega
        · obtain ⟨_, _, _, _, _, _, _, _, _, _, _, _, r6, r7, _⟩ := d.row h2
          rcases List.mem_cons.1 (hin t r7 (Nat.le_refl _) r6) with e | e
          · exact hc ⟨h2, e⟩
          · have := hr1 t e; omega
      · exact e
/-- where a bit is set: without it, whatever comes behind, the function is false -/
theorem lst_least (hw : WF nd) : ∀ (vs : List Nat) (i t k : Nat) (G : Env → Bool) (σ : Env), Den S nd i t G → (lst nd vs i)[k]? = some true → Along vs (lst nd vs i) k σ → (∀ v, vs[k]? = some v → σ v = false) → Rise vs → G σ = false := by
  intro vs
  induction vs with
  | nil => intro i t k G σ d hk; simp [lst] at hk
  | cons v vs ih =>
    intro i t k G σ d hk ha hf hr
    obtain ⟨hr1, hr2⟩ := List.pairwise_cons.1 hr
    by_cases hc : 2 ≤ i ∧ t = v
    · obtain ⟨h2, rfl⟩ := hc
      obtain ⟨lo, hi', tl, th, Fl, Fh, hrow, r1, r2, r3, r4, r5, r6, r7, dl, dh, rfl⟩ := d.row h2
      rw [lst_hit hrow h2] at hk ha
      cases k with
      | zero =>
        have h0 : lo = 0 := by simpa using hk
        have hv := hf t rfl
        simp only [hv, Bool.false_eq_true, if_false]
        subst h0
        obtain ⟨_, e⟩ := dl.det .zero
        rw [e]
      | succ k =>
        obtain ⟨hv, ha'⟩ := ha.tail
        simp only [List.getElem?_cons_succ] at hk
        simp only [hv]
        by_cases h0 : lo = 0
        · rw [if_pos h0] at ha' hk
          simp only [h0, decide_true, if_true]
          exact ih hi' th k Fh σ dh hk ha' (fun x hx => hf x (by simpa using hx)) hr2
        · rw [if_neg h0] at ha' hk
          simp only [h0, decide_false, Bool.false_eq_true, if_false]
          exact ih lo tl k Fl σ dl hk ha' (fun x hx => hf x (by simpa using hx)) hr2
    · have hrow : ∃ lo hi, nd[i]? = some (t, lo, hi) := by
        cases d with
        | zero => exact ⟨_, _, hw.e0⟩
        | one => exact ⟨_, _, hw.e1⟩
        | node h h2 hl hh hne h1 h3 hv hS dl dh => exact ⟨_, _, h⟩
      obtain ⟨lo, hi', hrow⟩ := hrow
      rw [lst_miss hrow hc] at ha hk
      cases k with
      | zero => simp at hk
      | succ k =>
        simp only [List.getElem?_cons_succ] at hk
        exact ih i t k G σ d hk ha.tail.2 (fun x hx => hf x (by simpa using hx)) hr2
end Go.Proofs.Ytgfjdkkfgclhjaa.Bd
/- most; what a nil arena answers; Count of too many. -/
namespace Go.Proofs.Ytgfjdkkfgclhjaa.Bd
open Go.RowKit Go.Proofs.Ytgfjdkkfgclhjaa Go.Proofs.Ytgfjdkkfgclhjaa.Lx Go.Maps

def MostOut (n : Nat) (w : World) (e : Ending) (w' : World) : Prop := ∃ v, e = .returned v ∧ w'.ownsRow w.heap.size 3 1 v n ((encL (List.range n)).map encI) ∧ Below w.heap.size w w'
theorem range_row (i : Nat) : (encL (List.range i)).map encI ++ [.int .i64 i] = (encL (List.range (i + 1))).map encI := by
  unfold encL
  rw [List.range_succ]
  simp [encI]
set_option maxHeartbeats 1000000 in
set_option maxRecDepth 100000 in
theorem most_any (n : Nat) (w : World) (hn : n ≤ 1000000) : Calls Try.prog 12 #[.int .i64 n] w (MostOut n w) := by
  obtain ⟨i1, hi1, iz1, is1, ib1⟩ := info_at infoT
  go_enter Try.func12, Try.ntmps12
  go_wp2_with fail
  go_loopw [3, 4] (fun v j wr => ∃ i : Nat, j = .int .i64 i ∧ i ≤ n ∧ wr.ownsRow w.heap.size 3 1 v i ((encL (List.range i)).map encI) ∧ Below w.heap.size w wr) (fun _ j _ => n - (intOf j).toNat)
  case atStart => exact ⟨0, rfl, Nat.zero_le _, ⟨rfl, .inl ⟨rfl, rfl⟩⟩, Below.refl _ w⟩
  case round =>
    obtain ⟨i, rfl, hi, hrow, hB⟩ := hrel
    rcases Nat.lt_or_ge i n with hlt | hge
    · have d1 : decide (i < n) = true := by simpa using hlt
      have d1' : decide ((i : Int) < n) = true := by simp; omega
      obtain ⟨A, C, rfl⟩ := own_slice hrow
      have HR := hide (hrow.alloc (Obj.cells #[.int .i64 i] 3))
      have HB := hide (hB.alloc hB.size (Obj.cells #[.int .i64 i] 3))
      have HS := hide hB.size
      clear hrow hB
      go_wp2_with (at_builtin; go_must (refine wpList_append_own _ rfl (.tmp 10) (.tmp 12) 37 rfl w.heap.size 3 i1 _ 1 8 Try.underlying37 hi1 iz1 is1 ib1 rfl (by decide) _ i ((encL (List.range i)).map encI) rfl HR.out ⟨wr.heap.size, 0, none⟩ 1 1 [.int .i64 i] rfl rfl ?cells ?ones ?c63 ?cby ?cbase ?_))
      case cells =>
        intro j u hj
        match j, hj with
        | 0, hj => simp at hj; subst hj; simp [Addr.add, go_sem]
        | j + 1, hj => simp at hj
      case ones => simp [Value.oneCell']
      case c63 => unfold maxLen; omega
      case cby => omega
      case cbase => have := HS.out; simp; omega
      intro v' w2 hown' hgrow _
      rw [range_row] at hown'
      obtain ⟨A2, C2, rfl⟩ := own_slice hown'
      have HO := hide hown'
      have HB2 := hide (HB.out.grown hgrow HB.out.size (fun b e => (HR.out.lt b e).1))
      clear hown' hgrow
      go_wp2_with fail
      go_roundw
      case rel => exact ⟨i + 1, by go_num, by omega, HO.out, HB2.out⟩
      case measure => simp [intOf]; omega
    · have e : i = n := by omega
      have d1 : decide (i < n) = false := by simp; omega
      have d1' : decide ((i : Int) < n) = false := by simp; omega
      rw [e] at hrow
      have HX := hide (p := MostOut n w (.returned _) wr) ⟨_, rfl, hrow, hB⟩
      obtain ⟨A, C, rfl⟩ := own_slice hrow
      clear hrow hB e
      go_wp2_with fail
      go_ret
      exact HX.out
theorem rise_range (n : Nat) : Rise (List.range n) := List.pairwise_lt_range

/-! ### nil -/
set_option maxRecDepth 100000 in
theorem Ite_nil (f g h : Int) (w : World) : Calls Try.prog 19 #[.pointer none, .int .i64 f, .int .i64 g, .int .i64 h] w fun e w' => e = .returned (.tuple #[.int .i64 0, .int .i64 2]) ∧ Below w.heap.size w w' := by
  go_enter Try.func19, Try.ntmps19
  go_wp2_with fail
  refine (check_nil _ _).mono ?_
  rintro e w1 ⟨rfl, rfl⟩
  go_wp2_with fail
  go_ret2
  exact ⟨rfl, bel_one _ _⟩
set_option maxRecDepth 100000 in
theorem At_nil (f : Int) (v : Value) (w : World) : Calls Try.prog 14 #[.pointer none, .int .i64 f, v] w fun e w' => e = .returned (.tuple #[.bool false, .int .i64 2]) ∧ Below w.heap.size w w' := by
  go_enter Try.func14, Try.ntmps14
  go_wp2_with fail
  refine (check_nil _ _).mono ?_
  rintro e w1 ⟨rfl, rfl⟩
  go_wp2_with fail
  go_ret2
  exact ⟨rfl, bel_one _ _⟩
set_option maxRecDepth 100000 in
theorem Least_nil (f : Int) (v : Value) (w : World) : Calls Try.prog 13 #[.pointer none, .int .i64 f, v] w fun e w' => e = .returned (.tuple #[.slice none 0 0, .int .i64 2]) ∧ Below w.heap.size w w' := by
  go_enter Try.func13, Try.ntmps13
  go_wp2_with fail
  refine (check_nil _ _).mono ?_
  rintro e w1 ⟨rfl, rfl⟩
  go_wp2_with fail
  go_ret2
  exact ⟨rfl, bel_one _ _⟩
set_option maxRecDepth 100000 in
theorem Rename_nil (f : Int) (u v : Value) (w : World) : Calls Try.prog 16 #[.pointer none, .int .i64 f, u, v] w fun e w' => e = .returned (.tuple #[.int .i64 0, .int .i64 2]) ∧ Below w.heap.size w w' := by
  have y0 : (w.alloc (.cells #[.pointer none] 24)).cell? ⟨w.heap.size, 0, none⟩ = some (.pointer none) := cell_heap (heap_new _ _) rfl
  have HB := hide (below_wide (bel_one w (.cells #[.pointer none] 24)) (bel_one _ (.cells #[.int .i64 f] 3)))
  go_enter Try.func16, Try.ntmps16
  go_wp2_with fail
  refine (check_nil _ _).mono ?_
  rintro e w1 ⟨rfl, rfl⟩
  go_wp2_with fail
  go_ret2
  exact ⟨rfl, HB.out⟩
set_option maxRecDepth 100000 in
theorem Count_nil (f : Int) (A : Option Addr) (n c : Nat) (w : World) : Calls Try.prog 11 #[.pointer none, .int .i64 f, .slice A n c] w fun e w' => e = .returned (.tuple #[.agg #[.int .u64 0, .int .u64 0], .int .i64 2]) ∧ Below w.heap.size w w' := by
  obtain ⟨x0, x1, x2, hb3, hs3⟩ := three_boxes w #[.pointer none] #[.slice A n c] #[.int .u64 0, .int .u64 0] 24 37 34
  have y0 := cell_heap (j := 0) x0 rfl
  have HX := hide (And.intro (heap_old (p := .cells #[.int .i64 f] 3) x2) (below_wide hb3 (bel_one _ (.cells #[.int .i64 f] 3))))
  clear x0 x1 x2 hb3 hs3
  go_enter Try.func11, Try.ntmps11
  go_wp2_with fail
  refine (check_nil _ _).mono ?_
  rintro e w1 ⟨rfl, rfl⟩
  go_wp2_with fail
  generalize (((w.alloc (.cells #[.pointer none] 24)).alloc (.cells #[.slice A n c] 37)).alloc (.cells #[.int .u64 0, .int .u64 0] 34)).alloc (.cells #[.int .i64 f] 3) = w9 at *
  have q0 := cell_heap (j := 0) HX.out.1 rfl
  have q1 := cell_heap (j := 1) HX.out.1 rfl
  exact bodyPost_ret (v := .tuple #[.agg #[.int .u64 0, .int .u64 0], .int .i64 2]) (by simp [results, Try.results11, go_sem, q0, q1]) rfl ⟨rfl, HX.out.2⟩
set_option maxHeartbeats 1000000 in
set_option maxRecDepth 100000 in
/-- more than 127 variables are refused -/
theorem Count_long (S : Nat → Bool) (k : Blk) (s : St) (f t : Nat) (F : Env → Bool) (A : Option Addr) (c : Nat) (ov : List Nat) (w : World) (hA : Ar w k s) (g1 : s.gi f = true) (d : Den S s.nd f t F) (hov : Rise ov) (hall : ∀ x ∈ ov, x < s.vs) (hin : ∀ x, S x = true → x ∈ ov) (hS : Src w A ov.length c 1 ((encL ov).map encI)) (hn : 127 < ov.length) (hn2 : ov.length ≤ 1000000) (hm : s.m + 2 ≤ 1000000000) :
    Calls Try.prog 11 #[.pointer (some ⟨k.p, 0, none⟩), .int .i64 f, .slice A ov.length c] w fun e w' => e = .returned (.tuple #[.agg #[.int .u64 0, .int .u64 0], .int .i64 1]) ∧ Below w.heap.size w w' := by
  have hW := hA.wf
  have hnm := hA.nm
  have hfl := d.lt hW
  obtain ⟨x0, x1, x2, hb3, hs3⟩ := three_boxes w #[.pointer (some ⟨k.p, 0, none⟩)] #[.slice A ov.length c] #[.int .u64 0, .int .u64 0] 24 37 34
  obtain ⟨W, hWd⟩ : ∃ W, W = (((w.alloc (.cells #[.pointer (some ⟨k.p, 0, none⟩)] 24)).alloc (.cells #[.slice A ov.length c] 37)).alloc (.cells #[.int .u64 0, .int .u64 0] 34)) := ⟨_, rfl⟩
  rw [← hWd] at x0 x1 x2 hb3 hs3
  have hbl := below_wide hb3 (bel_one W (.cells #[.int .i64 f] 3))
  have HC := hide (check_any k s [(f : Int)] W.heap.size _ (hA.below hbl) (cells1 W f) (by simp; omega) (by simp))
  rw [show [(f : Int)].length = 1 from rfl, gvn_all (s := s) (l := [(f : Int)]) (by simp [g1]), hs3] at HC
  have HRI := hide (rises_any k s f A c (encL ov) (W.alloc (.cells #[.int .i64 f] 3)) (hA.below hbl) g1 hfl (by rw [encL_len]; exact hS.below hbl) (by rw [encL_len]; omega) hm)
  rw [encL_len] at HRI
  have y0 : (W.alloc (.cells #[.int .i64 f] 3)).cell? ⟨w.heap.size, 0, none⟩ = some (.pointer (some ⟨k.p, 0, none⟩)) := cell_heap (heap_old x0) rfl
  have y1 : (W.alloc (.cells #[.int .i64 f] 3)).cell? ⟨w.heap.size + 1, 0, none⟩ = some (.slice A ov.length c) := cell_heap (heap_old x1) rfl
  have y9 : W.cell? ⟨w.heap.size, 0, none⟩ = some (.pointer (some ⟨k.p, 0, none⟩)) := cell_heap x0 rfl
  have HX := hide (And.intro (heap_old (p := .cells #[.int .i64 f] 3) x1) (heap_old (p := .cells #[.int .i64 f] 3) x2))
  have HRT := hide (fun (e : Ending) (w' : World) => rises_true (w := (W.alloc (.cells #[.int .i64 f] 3))) (w' := w') (e := e) hW d hov hall hin)
  have HBL := hide hbl
  have d127 : decide ((127 : Int) < ov.length) = true := by simp; omega
  clear hA d hov hall hin hS hbl hb3 hs3 x0 x1 x2 g1
  subst hWd
  go_enter Try.func11, Try.ntmps11
  go_wp2_with fail
  refine HC.out.mono ?_
  rintro e w1 ⟨rfl, rfl⟩
  go_wp2_with fail
  refine HRI.out.mono ?_
  intro e w2 hh
  obtain ⟨rfl, hb⟩ := HRT.out e w2 hh
  have z1 := heapB hb HX.out.1
  have z2 := heapB hb HX.out.2
  have HB2 := hide (below_wide HBL.out hb)
  have v1 := cell_heap (j := 0) z1 rfl
  have r0 := cell_heap (j := 0) z2 rfl
  have rf0 := frozen_heap (j := 0) z2
  have r1 := fun (u : Value) => cell_heap (j := 1) (heap_set (j := 0) (u := u) z2) rfl
  have rf1 := fun (u : Value) => frozen_heap (j := 1) (heap_set (j := 0) (u := u) z2)
  have HZ := hide z2
  clear hh hb z1 z2 HX y0 y1 y9 HRT HC HRI
  go_wp2_with fail
  have HBF := hide ((HB2.out.setCell (p := ⟨w.heap.size + 1 + 1, 0, none⟩) (by simp; omega) (.int .u64 0)).setCell (p := ⟨w.heap.size + 1 + 1, 1, none⟩) (by simp; omega) (.int .u64 0))
  have q0h := hide (cell_heap (j := 0) (heap_set (j := 1) (u := .int .u64 0) (heap_set (j := 0) (u := .int .u64 0) HZ.out)) rfl)
  have q1h := hide (cell_heap (j := 1) (heap_set (j := 1) (u := .int .u64 0) (heap_set (j := 0) (u := .int .u64 0) HZ.out)) rfl)
  clear r0 rf0 r1 rf1
  generalize (w2.setCell ⟨w.heap.size + 1 + 1, 0, none⟩ (.int .u64 0)).setCell ⟨w.heap.size + 1 + 1, 1, none⟩ (.int .u64 0) = w9 at *
  have q0 := q0h.out
  have q1 := q1h.out
  exact bodyPost_ret (v := .tuple #[.agg #[.int .u64 0, .int .u64 0], .int .i64 1]) (by simp [results, Try.results11, go_sem, q0, q1]) rfl ⟨rfl, HBF.out⟩
end Go.Proofs.Ytgfjdkkfgclhjaa.Bd
/- Counts and the least values, in plain words; Least of what is never true. -/
namespace Go.Proofs.Ytgfjdkkfgclhjaa.Bd
open Go.RowKit Go.Proofs.Ytgfjdkkfgclhjaa Go.Proofs.Ytgfjdkkfgclhjaa.Lx Go.Maps

theorem Nod.zero {w : World} {k : Blk} {s : St} (L : Live w k s) {f : Nat} {S : Nat → Bool} {F : Env → Bool} (N : Nod s f S F) : f = 0 ↔ F = fun _ => false := by
  constructor
  · intro e
    subst e
    exact N.fn (L.no S)
  · intro e
    subst e
    exact N.eq L (L.no S)
theorem cnt_null {w : World} {k : Blk} {s : St} (L : Live w k s) {f n : Nat} {S : Nat → Bool} {F : Env → Bool} (N : Nod s f S F) (hS : ∀ x, S x = true → x < n) : cntL F (List.range n) z0 = 0 ↔ f = 0 := by
  rw [N.zero L]
  constructor
  · intro h
    obtain ⟨_, t, d⟩ := N
    funext ρ
    rw [d.indepS ρ (fun x => if x < n then ρ x else false) (fun x _ _ h => by simp [hS x h])]
    exact cntL_zero _ _ h _ (fun x hx => by
      have : ¬ x < n := fun h => hx (List.mem_range.2 h)
      simp [this, z0])
  · intro e
    rw [e]
    exact cntL_none _ _
theorem range_get {n v j : Nat} (h : (List.range n)[j]? = some v) : v = j ∧ j < n := by
  have h1 : j < n := by simpa using (List.getElem?_eq_some_iff.1 h).1
  rw [List.getElem?_range h1] at h
  exact ⟨(Option.some.inj h).symm, h1⟩
theorem least_true {w : World} {k : Blk} {s : St} (L : Live w k s) {f n : Nat} {S : Nat → Bool} {F : Env → Bool} (N : Nod s f S F) (hS : ∀ x, S x = true → x < n) (hf : f ≠ 0) : F (envOf (lst s.nd (List.range n) f)) = true := by
  obtain ⟨_, t, d⟩ := N
  refine lst_true L.ar.wf (List.range n) f t F _ d (rise_range n) (fun x hx _ _ => List.mem_range.2 (hS x hx)) hf ?_
  intro j v b hj hv hb
  obtain ⟨rfl, _⟩ := range_get hv
  simp [envOf, List.getD_eq_getElem?_getD, hb]
/-- values ahead of a bit, the bit taken off, n values in all -/
def vb (vals : List Bool) (n : Nat) : Bool := decide (n < vals.length) && vals.getD n false
def wN (l vals : List Bool) (i n : Nat) : List Bool := l.take i ++ false :: (List.range (n - (i + 1))).map fun j => vb vals (i + 1 + j)
theorem wN_len {l vals : List Bool} {i n : Nat} (h : i ≤ l.length) (hn : i + 1 ≤ n) : (wN l vals i n).length = n := by
  unfold wN
  simp
  omega
theorem wN_first {l vals : List Bool} {i : Nat} : wN l vals i (i + 1) = l.take i ++ [false] := by
  unfold wN
  simp
theorem wN_next {l vals : List Bool} {i n : Nat} (h : i + 1 ≤ n) : wN l vals i (n + 1) = wN l vals i n ++ [vb vals n] := by
  unfold wN
  rw [show n + 1 - (i + 1) = (n - (i + 1)) + 1 by omega, List.range_succ, List.map_append, List.append_assoc]
  simp only [List.map_cons, List.map_nil, List.cons_append]
  rw [show i + 1 + (n - (i + 1)) = n by omega]
theorem least_none {w : World} {k : Blk} {s : St} (L : Live w k s) {f n i : Nat} {S : Nat → Bool} {F : Env → Bool} (N : Nod s f S F) (hi : (lst s.nd (List.range n) f)[i]? = some true) (vals : List Bool) : F (envOf (wN (lst s.nd (List.range n) f) vals i n)) = false := by
  have hl : i < (lst s.nd (List.range n) f).length := (List.getElem?_eq_some_iff.1 hi).1
  generalize hll : lst s.nd (List.range n) f = l at *
  obtain ⟨_, t, d⟩ := N
  refine lst_least L.ar.wf (List.range n) f t i F _ d (by rw [hll]; exact hi) ?_ ?_ (rise_range n)
  · intro j v b hj hv hb
    obtain ⟨rfl, _⟩ := range_get hv
    rw [hll] at hb
    unfold envOf wN
    rw [List.getD_eq_getElem?_getD, List.getElem?_append_left (by simp; omega), List.getElem?_take_of_lt hj, hb]
    rfl
  · intro v hv
    obtain ⟨rfl, _⟩ := range_get hv
    unfold envOf wN
    rw [List.getD_eq_getElem?_getD, List.getElem?_append_right (by simp; omega)]
    simp [show min v l.length = v by omega]
set_option maxHeartbeats 1000000 in
set_option maxRecDepth 100000 in
theorem Least_zero (S : Nat → Bool) (k : Blk) (s : St) (A : Option Addr) (c : Nat) (ov : List Nat) (w : World) (hA : Ar w k s) (g1 : s.gi 0 = true) (hov : Rise ov) (hall : ∀ x ∈ ov, x < s.vs) (hin : ∀ x, S x = true → x ∈ ov) (hS : Src w A ov.length c 1 ((encL ov).map encI)) (hn : ov.length ≤ 256) (hm : s.m + 2 ≤ 1000000000) :
    Calls Try.prog 13 #[.pointer (some ⟨k.p, 0, none⟩), .int .i64 0, .slice A ov.length c] w fun e w' => e = .returned (.tuple #[.slice none 0 0, .int .i64 5]) ∧ Below w.heap.size w w' := by
  have hW := hA.wf
  have d : Den S s.nd 0 256 (fun _ => false) := .zero
  have hfl := d.lt hW
  have hbl := bel_one w (.cells #[.int .i64 0] 3)
  have HC := hide (check_any k s [(0 : Int)] w.heap.size _ (hA.below hbl) (cells1 w 0) (by simp) (by simp))
  rw [show [(0 : Int)].length = 1 from rfl, gvn_all (s := s) (l := [(0 : Int)]) (by simpa using g1)] at HC
  have HRI := hide (rises_any k s 0 A c (encL ov) (w.alloc (.cells #[.int .i64 0] 3)) (hA.below hbl) g1 hfl (by rw [encL_len]; exact hS.below hbl) (by rw [encL_len]; omega) hm)
  rw [encL_len] at HRI
  have HRT := hide (fun (e : Ending) (w' : World) => rises_true (w := (w.alloc (.cells #[.int .i64 0] 3))) (w' := w') (e := e) hW d hov hall hin)
  have HBL := hide hbl
  clear hA d hov hall hin hS hbl g1
  go_enter Try.func13, Try.ntmps13
  go_wp2_with fail
  refine HC.out.mono ?_
  rintro e w1 ⟨rfl, rfl⟩
  go_wp2_with fail
  refine HRI.out.mono ?_
  intro e w2 hh
  obtain ⟨rfl, hb⟩ := HRT.out e w2 hh
  have HB2 := hide (below_wide HBL.out hb)
  clear hh hb HRI HRT HC
  go_wp2_with fail
  go_ret2
  exact ⟨rfl, HB2.out⟩
end Go.Proofs.Ytgfjdkkfgclhjaa.Bd
/- Least, whole. -/
namespace Go.Proofs.Ytgfjdkkfgclhjaa.Bd
open Go.RowKit Go.Proofs.Ytgfjdkkfgclhjaa Go.Proofs.Ytgfjdkkfgclhjaa.Lx Go.Maps

theorem infoB : (Try.prog.info? 4).map (fun i => (i.zero, i.size, i.bytes)) = some (some (.bool false), 1, 1) := by kernel_rfl
/-- a block of bools -/
def BRow (w : World) (g : Nat) (l : List Bool) : Prop := ∃ cur : Array Value, w.heap[g]? = some (.cells cur 4 (0, 0)) ∧ ∀ (j : Nat) (b : Bool), l[j]? = some b → cur[j]? = some (.bool b)
section
variable {w w' : World} {g : Nat} {l : List Bool}
theorem BRow.cell (h : BRow w g l) {j : Nat} {b : Bool} (hj : l[j]? = some b) : w.cell? ⟨g, j, none⟩ = some (.bool b) := by
  obtain ⟨cur, h1, h2⟩ := h
  exact cell_heap h1 (h2 j b hj)
theorem BRow.frozen (h : BRow w g l) (j : Nat) : w.frozen? ⟨g, j, none⟩ = false := by
  obtain ⟨cur, h1, h2⟩ := h
  exact frozen_heap h1
theorem BRow.lt (h : BRow w g l) : g < w.heap.size := by
  obtain ⟨cur, h1, h2⟩ := h
  exact lt_heap h1
theorem BRow.put (h : BRow w g l) {x : Nat} {c : Bool} (hx : x < l.length) : BRow (w.setCell ⟨g, x, none⟩ (.bool c)) g (l.set x c) := by
  obtain ⟨cur, h1, h2⟩ := h
  refine ⟨cur.setIfInBounds x (.bool c), heap_set h1, fun j b hj => ?_⟩
  rw [List.getElem?_set] at hj
  rw [Array.getElem?_setIfInBounds]
  have hlt : x < cur.size := by
    have := h2 x _ (List.getElem?_eq_getElem hx)
    rcases Nat.lt_or_ge x cur.size with h' | h'
    · exact h'
    · rw [Array.getElem?_eq_none h'] at this; cases this
  by_cases e : x = j
  · rw [if_pos e, if_pos hx] at hj
    cases hj
    rw [if_pos e, if_pos hlt]
  · rw [if_neg e] at hj
    rw [if_neg e]
    exact h2 j b hj
theorem BRow.below (h : BRow w g l) (hb : Below w.heap.size w w') : BRow w' g l := by
  obtain ⟨cur, h1, h2⟩ := h
  exact ⟨cur, heapB hb h1, h2⟩
theorem BRow.src (h : BRow w g l) : Src w (some ⟨g, 0, none⟩) l.length l.length 1 (l.map Value.bool) := by
  refine ⟨by simp, .inr ⟨_, rfl, fun j u hu => ?_⟩⟩
  rw [List.getElem?_map] at hu
  obtain ⟨b, hb, rfl⟩ := Option.map_eq_some_iff.1 hu
  rw [show (⟨g, 0, none⟩ : Addr).add j = ⟨g, j, none⟩ by simp [Addr.add, eq_comm]]
  exact h.cell hb
theorem brow_own {base n cap : Nat} {vals : List Value} (h : w.ownsRow base 4 1 (.slice (some ⟨g, 0, none⟩) n cap) n vals) (hv : vals = l.map Value.bool) : BRow w g l := by
  rcases h.2 with ⟨h1, _⟩ | ⟨g', cap', cur, h1, _, h3, _, _, _, h5⟩
  · cases h1
  · injection h1 with h1
    injection h1 with h1
    injection h1 with h1
    subst h1
    refine ⟨cur, h3, fun j b hj => ?_⟩
    have e : vals[j]? = some (.bool b) := by rw [hv, List.getElem?_map, hj]; rfl
    rw [← h5] at e
    have := lt_of_some e
    rw [List.getElem?_take_of_lt (by simp at this; omega)] at e
    simpa using e
end
def LeastOut (nd : List Nd) (f : Nat) (ov : List Nat) (w : World) (e : Ending) (w' : World) : Prop :=
  ∃ g, e = .returned (.tuple #[.slice (some ⟨g, 0, none⟩) ov.length ov.length, .int .i64 0]) ∧ w.heap.size ≤ g ∧ BRow w' g (lst nd ov f) ∧ Below w.heap.size w w'
/-- after i of the variables: what stands in the row; where the walk is -/
structure Ls (S : Nat → Bool) (nd : List Nd) (f : Nat) (ov : List Nat) (w wr : World) (g i x : Nat) (pre : List Bool) : Prop where
  b : Below w.heap.size w wr
  row : BRow wr g (pre ++ List.replicate (ov.length - i) false)
  len : pre.length = i
  rest : lst nd ov f = pre ++ lst nd (ov.drop i) x
  den : ∃ t F, Den S nd x t F
theorem lst_cut {nd : List Nd} {v lo hi x : Nat} {vs : List Nat} (h : nd[x]? = some (v, lo, hi)) (h2 : 2 ≤ x) : lst nd (v :: vs) x = decide (lo = 0) :: lst nd vs (cut nd x v (decide (lo = 0))) := by
  have hc : cut nd x v (decide (lo = 0)) = if lo = 0 then hi else lo := by
    unfold cut
    rw [h]
    simp
  rw [lst_hit h h2, hc]
theorem set_next (pre : List Bool) (m : Nat) (c : Bool) (hm : 0 < m) : (pre ++ List.replicate m false).set pre.length c = (pre ++ [c]) ++ List.replicate (m - 1) false := by
  obtain ⟨k, rfl⟩ : ∃ k, m = k + 1 := ⟨m - 1, by omega⟩
  rw [List.set_append_right _ _ (Nat.le_refl _), Nat.sub_self, List.replicate_succ]
  simp
theorem same_next (pre : List Bool) (m : Nat) (hm : 0 < m) : pre ++ List.replicate m false = (pre ++ [false]) ++ List.replicate (m - 1) false := by
  obtain ⟨k, rfl⟩ : ∃ k, m = k + 1 := ⟨m - 1, by omega⟩
  rw [List.replicate_succ]
  simp
theorem Ls.next {S : Nat → Bool} {nd : List Nd} {f : Nat} {ov : List Nat} {w wr w' : World} {g i x x' : Nat} {pre : List Bool} {c : Bool} (h : Ls S nd f ov w wr g i x pre) (hi : i < ov.length) (hb : Below w.heap.size w w') (hr : BRow w' g ((pre ++ [c]) ++ List.replicate (ov.length - i - 1) false)) (hrest : lst nd (ov.drop i) x = c :: lst nd (ov.drop (i + 1)) x') (hd : ∃ t F, Den S nd x' t F) : Ls S nd f ov w w' g (i + 1) x' (pre ++ [c]) := by
  refine ⟨hb, hr, by simp [h.len], ?_, hd⟩
  rw [h.rest, hrest]
  simp
theorem Ls.done {S : Nat → Bool} {nd : List Nd} {f : Nat} {ov : List Nat} {w wr : World} {g x : Nat} {pre : List Bool} (h : Ls S nd f ov w wr g ov.length x pre) (hg : w.heap.size ≤ g) : LeastOut nd f ov w (.returned (.tuple #[.slice (some ⟨g, 0, none⟩) ov.length ov.length, .int .i64 0])) wr := by
  refine ⟨g, rfl, hg, ?_, h.b⟩
  have := h.row
  rw [h.rest, List.drop_length]
  simpa [lst] using this
set_option maxHeartbeats 4000000 in
set_option maxRecDepth 100000 in
theorem Least_any (S : Nat → Bool) (k : Blk) (s : St) (f t : Nat) (F : Env → Bool) (A : Option Addr) (c : Nat) (ov : List Nat) (w : World) (hA : Ar w k s) (hv : s.vs ≤ 256) (g1 : s.gi f = true) (d : Den S s.nd f t F) (hf0 : f ≠ 0) (hov : Rise ov) (hall : ∀ x ∈ ov, x < s.vs) (hin : ∀ x, S x = true → x ∈ ov) (hS : Src w A ov.length c 1 ((encL ov).map encI)) (hn : ov.length ≤ 256) (hm : s.m + 2 ≤ 1000000000) :
    Calls Try.prog 13 #[.pointer (some ⟨k.p, 0, none⟩), .int .i64 f, .slice A ov.length c] w (LeastOut s.nd f ov w) := by
  have hW := hA.wf
  have hnm := hA.nm
  have hfl := d.lt hW
  have hbl := bel_one w (.cells #[.int .i64 f] 3)
  have HC := hide (check_any k s [(f : Int)] w.heap.size _ (hA.below hbl) (cells1 w f) (by simp; omega) (by simp))
  rw [show [(f : Int)].length = 1 from rfl, gvn_all (s := s) (l := [(f : Int)]) (by simp [g1])] at HC
  have HRI := hide (rises_any k s f A c (encL ov) (w.alloc (.cells #[.int .i64 f] 3)) (hA.below hbl) g1 hfl (by rw [encL_len]; exact hS.below hbl) (by rw [encL_len]; omega) hm)
  rw [encL_len] at HRI
  have HRT := hide (fun (e : Ending) (w' : World) => rises_true (w := (w.alloc (.cells #[.int .i64 f] 3))) (w' := w') (e := e) hW d hov hall hin)
  have HBL := hide hbl
  have HA := hide hA
  have HS := hide hS
  have HD := hide d
  have HL := hide (And.intro hv hall)
  have d0 : decide ((f : Int) = 0) = false := by simp; omega
  have d0' : ((f : Int) == 0) = false := by simp; omega
  have hwr : IntKind.i32.wrap (f : Int) = f := wrap3 (by omega) (by omega)
  obtain ⟨i1, hi1, iz1, is1, ib1⟩ := info_at infoB
  have hlen := hn
  clear hA d hov hall hin hS hbl g1
  go_enter Try.func13, Try.ntmps13
  go_wp2_with fail
  refine HC.out.mono ?_
  rintro e w1 ⟨rfl, rfl⟩
  go_wp2_with fail
  refine HRI.out.mono ?_
  intro e w2 hh
  obtain ⟨rfl, hb⟩ := HRT.out e w2 hh
  have HB2 := hide (below_wide HBL.out hb)
  clear hh hb HRI HRT HC
  go_wp2_with (at_make; (refine wpList_make_full _ rfl _ _ 23 rfl w2.heap.size 4 i1 (.bool false) 1 Try.underlying23 hi1 iz1 is1 .i64 .i64 ov.length ov.length ov.length rfl rfl rfl rfl ?b2 ?b3 (Nat.le_refl _) ?_))
  case b2 => rw [ib1]; omega
  case b3 => unfold maxLen; omega
  intro w3 hown hgr
  rw [toList_madeCells_one] at hown
  have HR3 := hide (brow_own (l := List.replicate ov.length false) hown (by simp))
  have HB3 := hide (HB2.out.grown hgr HB2.out.size (fun k hk => by cases hk))
  have HG := hide HB2.out.size
  clear hown hgr
  go_wp2_with fail
  generalize w2.heap.size = g at *
  go_loopw [10, 34] (fun a j wr => ∃ (i x : Nat) (pre : List Bool), j = .int .i64 i ∧ a = .int .i32 x ∧ i ≤ ov.length ∧ Ls S s.nd f ov w wr g i x pre) (fun _ j _ => ov.length - (intOf j).toNat)
  case atStart => exact ⟨0, f, [], rfl, rfl, Nat.zero_le _, HB3.out, HR3.out, rfl, by simp, _, _, HD.out⟩
  case round =>
    obtain ⟨i, x, pre, rfl, rfl, hi, HX⟩ := hrel
    have HX := hide HX
    rcases Nat.lt_or_ge i ov.length with hlt | hge
    · have d1 : decide (i < ov.length) = true := by simpa using hlt
      have d1' : decide ((i : Int) < ov.length) = true := by simp; omega
      obtain ⟨v, hvx⟩ : ∃ v, ov[i]? = some v := ⟨_, List.getElem?_eq_getElem hlt⟩
      have hv256 : v < 256 := by have := HL.out.2 v (List.mem_of_getElem? hvx); have := HL.out.1; omega
      obtain ⟨ad, rfl, cv⟩ := src_at (HS.out.below HX.out.b) (i := i) (x := (v : Int)) (by unfold encL; rw [List.getElem?_map, hvx]; rfl)
      have hdrop : ov.drop i = v :: ov.drop (i + 1) := by
        rw [List.drop_eq_getElem_cons hlt]
        rw [List.getElem?_eq_getElem hlt] at hvx
        cases hvx
        rfl
      obtain ⟨tx, G, dx⟩ := HX.out.den
      have hxl := dx.lt hW
      have hArw := HA.out.below HX.out.b
      obtain ⟨⟨tv, lo, hi'⟩, hr⟩ : ∃ y, s.nd[x]? = some y := ⟨_, List.getElem?_eq_getElem hxl⟩
      have HAW := hide hArw
      obtain ⟨_, _, H, _⟩ := hArw
      have hc2 := H.c2
      obtain ⟨n0, n1, n2⟩ := H.node hr
      simp only at n0 n1
      have hxi : (x : Int) < s.nd.length := by omega
      have HDX := hide dx
      have HRX := hide hr
      have HDR := hide hdrop
      clear H hr dx hdrop hvx
      by_cases hc : 2 ≤ x ∧ tv = v
      · obtain ⟨h2, rfl⟩ := hc
        have e1 : decide ((1 : Int) < x) = true := by simp; omega
        have e2 : ((tv : Int) == tv) = true := by simp
        have e3 : decide ((tv : Int) = tv) = true := by simp
        have hwv : IntKind.i32.wrap (tv : Int) = tv := wrap3 (by omega) (by omega)
        have hgl : (pre ++ List.replicate (ov.length - i) false).length = ov.length := by simp [HX.out.len]; omega
        have hold : (pre ++ List.replicate (ov.length - i) false)[i]? = some false := by
          rw [List.getElem?_append_right (by rw [HX.out.len]; exact Nat.le_refl _), HX.out.len, Nat.sub_self, List.getElem?_replicate, if_pos (by omega)]
        have cr := HX.out.row.cell hold
        have fr := HX.out.row.frozen i
        have hlz : decide ((lo : Int) = 0) = decide (lo = 0) := by simp
        go_wp2_with fail
        have hcut := cut_den hW HDX.out (v := tv) (show tv ≤ tx by
          obtain ⟨_, _, _, _, _, _, hr', _⟩ := HDX.out.row h2
          rw [HRX.out] at hr'
          cases hr'
          exact Nat.le_refl _) hv256 (decide (lo = 0))
        have HBR := hide (HX.out.row.put (c := ((lo : Int) == 0)) (show i < _ by rw [hgl]; exact hlt))
        have hbs : Below w.heap.size w (wr.setCell ⟨g, i, none⟩ (.bool ((lo : Int) == 0))) := HX.out.b.setCell HG.out _
        have HBS := hide hbs
        refine (cut_any k s x tv ((lo : Int) == 0) _ (HA.out.below hbs) hxl (by omega) (by omega)).mono ?_
        rintro e w6 ⟨rfl, hb⟩
        have eb : ((lo : Int) == 0) = decide (lo = 0) := by rw [Bool.eq_iff_iff]; simp
        have HN := hide (Ls.next HX.out hlt (below_wide HBS.out hb) (c := decide (lo = 0)) (x' := cut s.nd x tv (decide (lo = 0))) (by
          have := HBR.out.below hb
          rw [eb] at this
          have e2 := set_next pre (ov.length - i) (decide (lo = 0)) (by omega)
          rw [HX.out.len] at e2
          rw [e2] at this
          exact this) (by rw [HDR.out]; exact lst_cut HRX.out h2) (by obtain ⟨t', _, d'⟩ := hcut; exact ⟨_, _, d'⟩))
        rw [eb]
        clear hb hbs hcut cr fr hold
        go_wp2_with fail
        go_roundw
        case rel => exact ⟨i + 1, _, _, by go_num, rfl, by omega, HN.out⟩
        case measure => simp [intOf]; omega
      · have HN := hide (Ls.next HX.out hlt HX.out.b (c := false) (x' := x) (by
          have := HX.out.row
          rw [same_next pre (ov.length - i) (by omega)] at this
          exact this) (by rw [HDR.out]; exact lst_miss HRX.out hc) HX.out.den)
        rcases Nat.lt_or_ge x 2 with h2 | h2
        · have e1 : decide ((1 : Int) < x) = false := by simp; omega
          go_wp2_with fail
          go_roundw
          case rel => exact ⟨i + 1, _, _, by go_num, rfl, by omega, HN.out⟩
          case measure => simp [intOf]; omega
        · have hne : tv ≠ v := fun e => hc ⟨h2, e⟩
          have htv : tv < 256 := by
            obtain ⟨_, _, _, _, _, _, hr', _, _, _, _, _, h6, _⟩ := HDX.out.row h2
            rw [HRX.out] at hr'
            cases hr'
            exact h6
          have e1 : decide ((1 : Int) < x) = true := by simp; omega
          have e2 : ((tv : Int) == v) = false := by simp; omega
          have e3 : (tv == v) = false := by simpa using hne
          have e4 : decide (tv = v) = false := by simpa using hne
          have e5 : decide ((tv : Int) = v) = false := by simp; omega
          go_wp2_with fail
          go_roundw
          case rel => exact ⟨i + 1, _, _, by go_num, rfl, by omega, HN.out⟩
          case measure => simp [intOf]; omega
    · have e : i = ov.length := by omega
      subst e
      have d1 : decide (ov.length < ov.length) = false := by simp
      have d1' : decide ((ov.length : Int) < ov.length) = false := by simp
      have HO := hide (HX.out.done HG.out)
      go_wp2_with fail
      go_ret2
      exact HO.out
end Go.Proofs.Ytgfjdkkfgclhjaa.Bd
/- BddCounts: the walk. -/
namespace Go.Proofs.Ytgfjdkkfgclhjaa.Bd
open Go.RowKit Go.Proofs.Ytgfjdkkfgclhjaa Go.Proofs.Ytgfjdkkfgclhjaa.Lx Go.Maps

/-- the arena and the row of the least values, in the loop -/
structure Cl (w0 : World) (k : Blk) (s : St) (g : Nat) (l : List Bool) (wr : World) : Prop where
  m : Mine w0 wr k s
  row : BRow wr g l
theorem Cl.below {w0 wr w' : World} {k : Blk} {s : St} {g : Nat} {l : List Bool} (h : Cl w0 k s g l wr) (hb : Below wr.heap.size wr w') : Cl w0 k s g l w' := ⟨h.m.below hb, h.row.below hb⟩
theorem hp20 {S : Nat → Bool} {t : Nat} (h : nS S 0 ≤ 20) : 2 + 2 ^ nS S t ≤ 2000000000 := by
  have h1 := min_le S t
  have : 2 ^ nS S t ≤ 2 ^ 20 := Nat.pow_le_pow_right (by omega) (by omega)
  omega
theorem own_empty (w : World) (e : TypeId) : (w.alloc (.cells #[] e)).ownsRow w.heap.size e 1 (.slice (some ⟨w.heap.size, 0, none⟩) 0 0) 0 [] :=
  ⟨rfl, .inr ⟨w.heap.size, 0, #[], rfl, Nat.le_refl _, heap_new w _, Nat.le_refl _, Nat.zero_le _, rfl, rfl⟩⟩
def lenV : Value → Nat
  | .slice _ n _ => n
  | _ => 0
theorem own_lenV {w : World} {b size n : Nat} {e : TypeId} {v : Value} {xs : List Value} (h : w.ownsRow b e size v n xs) : lenV v = n := by
  obtain ⟨A, c, rfl⟩ := own_slice h
  rfl
set_option maxHeartbeats 16000000 in
set_option maxRecDepth 100000 in
theorem counts_any (A : Option Addr) (c : Nat) (ops : List Nat) (AV : Option Addr) (cV : Nat) (vals : List Bool) (w : World) (hS : Src w A ops.length c 1 (encB ops)) (hb : ∀ b ∈ ops, b < 256) (hV : Src w AV vals.length cV 1 (vals.map Value.bool)) :
    Calls Try.prog 3 #[.slice A ops.length c, .slice AV vals.length cV] w fun e w' => e = .returned (.bool true) ∧ Below w.heap.size w w' := by
  have HSB := hide hS
  have HOB := hide hb
  have HVB := hide hV
  clear hS hb hV
  go_enter Try.func3, Try.ntmps3
  go_wp2_with fail
  refine (new_any 60 4194304 _ (by omega) (by omega)).mono ?_
  rintro e w1 ⟨k1, rfl, ho⟩
  have M1 := hide (mine_new ho (by omega) (by omega))
  have Q1 := hide (std_new 60)
  clear ho
  go_wp2_with fail
  refine (works_any w1).mono ?_
  rintro e w2 ⟨rfl, hb⟩
  have M2 := hide (M1.out.below hb)
  clear hb M1
  have HC := hide (made_any k1 (St.new 60 4194304) A c ops w w2 M2.out HSB.out HOB.out (by show 32 ≤ 60; omega) (by rw [budm_40]; show 0 + 16777200 ≤ 1000000000; omega) (by show 2 + 40 ≤ 900000000; omega) (by rw [bud_40]; show 0 + 534490 ≤ 4194304; omega))
  go_wp2_with fail
  refine HC.out.mono ?_
  intro e w3 hh
  obtain ⟨k3, s3, f, S, he, L, T, E, Q, hS20, hS32, N⟩ := adv_made hh Q1.out
  subst he
  have M3 := hide (M2.out.turn L T)
  have hp3 := hide T.p
  have Q3 := hide Q
  have Nf := hide N
  have HSS := hide (And.intro hS20 hS32)
  generalize hF : madeF 60 0 ops = F at *
  clear hh L T E Q N HC M2 hF hS20 hS32
  have HC := hide (Not_live 20 S k3 s3 f F w3 M3.out.L Nf.out HSS.out.1 (Q3.out.room (n := 20) (R := 2 ^ (20 + 2)) (by decide) (by decide) (by decide)))
  rw [hp3.out] at HC
  go_wp2_with fail
  refine HC.out.mono ?_
  intro e w4 hh
  obtain ⟨k4, s4, no, he, L, T, E, Q, N⟩ := adv hh Q3.out
  subst he
  have M4 := hide (M3.out.turn L T)
  have hp4 := hide (T.p.trans hp3.out)
  have Q4 := hide Q
  have Nno := hide N
  have Nfq := hide (Nf.out.ext E)
  clear hh L T E Q N HC M3 Nf
  have Nf := Nfq; clear Nfq
  obtain ⟨X, hX⟩ : ∃ X, cntL F (List.range 60) z0 = X := ⟨_, rfl⟩
  obtain ⟨Y, hY⟩ : ∃ Y, cntL (fun ρ => !F ρ) (List.range 60) z0 = Y := ⟨_, rfl⟩
  have hXY : X + Y = 1152921504606846976 := by
    rw [← hX, ← hY, cntL_not, List.length_range]
  have hX0 : X = 0 ↔ f = 0 := by
    rw [← hX]
    exact cnt_null M4.out.L Nf.out (fun x hx => by have := HSS.out.2 x hx; omega)
  have HXY := hide (And.intro (And.intro hX hY) (And.intro hXY hX0))
  clear hX hY hXY hX0
  have hin : Hid (∀ x, S x = true → x ∈ List.range 60) := hide (fun x hx => List.mem_range.2 (by have := HSS.out.2 x hx; omega))
  have hall : Hid (∀ x ∈ List.range 60, x < s4.vs) := hide (fun x hx => by rw [Q4.out.vs]; exact List.mem_range.1 hx)
  have hv256 : Hid (s4.vs ≤ 256) := hide (by rw [Q4.out.vs]; omega)
  have hm2 : Hid (s4.m + 2 ≤ 1000000000) := hide (by have := Q4.out.m; omega)
  go_wp2_with fail
  refine (most_any 60 w4 (by omega)).mono ?_
  rintro e w5 ⟨v5, rfl, hown, hbl⟩
  obtain ⟨A5, c5, rfl⟩ := own_slice hown
  have M5 := hide (M4.out.below hbl)
  have HC := hide (Count_any S k4 s4 f _ F A5 c5 (List.range 60) w5 M5.out.L.ar hv256.out Nf.out.1 Nf.out.2.choose_spec (rise_range 60) hall.out hin.out (by rw [List.length_range]; exact src_of_own hown) (by rw [List.length_range]; omega) hm2.out (hp20 HSS.out.1))
  rw [hp4.out, List.length_range, HXY.out.1.1, ofN_small (by have := HXY.out.2.1; omega)] at HC
  unfold cEl at HC
  clear hown hbl M4
  go_wp2_with fail
  refine HC.out.mono ?_
  rintro e w6 ⟨rfl, hb⟩
  have M6 := hide (M5.out.below (hb.alloc hb.size (.cells #[.int .u64 0, .int .u64 X] 34)))
  have c10 := hide (heap_new w6 (.cells #[.int .u64 0, .int .u64 X] 34))
  clear hb HC M5
  go_wp2_with fail
  refine (most_any 60 _ (by omega)).mono ?_
  rintro e w7 ⟨v7, rfl, hown, hbl⟩
  obtain ⟨A7, c7, rfl⟩ := own_slice hown
  have M7 := hide (M6.out.below hbl)
  have c11 := hide (heapB hbl c10.out)
  have HC := hide (Count_any S k4 s4 no _ (fun ρ => !F ρ) A7 c7 (List.range 60) w7 M7.out.L.ar hv256.out Nno.out.1 Nno.out.2.choose_spec (rise_range 60) hall.out hin.out (by rw [List.length_range]; exact src_of_own hown) (by rw [List.length_range]; omega) hm2.out (hp20 HSS.out.1))
  rw [hp4.out, List.length_range, HXY.out.1.2, ofN_small (by have := HXY.out.2.1; omega)] at HC
  unfold cEl at HC
  clear hown hbl M6 c10
  go_wp2_with fail
  refine HC.out.mono ?_
  rintro e w8 ⟨rfl, hb⟩
  have M8 := hide (M7.out.below (hb.alloc hb.size (.cells #[.int .u64 0, .int .u64 Y] 34)))
  have c12 := hide (heap_old (p := .cells #[.int .u64 0, .int .u64 Y] 34) (heapB hb c11.out))
  have c13 := hide (heap_new w8 (.cells #[.int .u64 0, .int .u64 Y] 34))
  clear hb HC M7 c11
  generalize hW9 : w8.alloc (.cells #[.int .u64 0, .int .u64 Y] 34) = w9 at *
  have a0 := cell_heap (j := 0) c12.out rfl
  have a1 := cell_heap (j := 1) c12.out rfl
  have b0 := cell_heap (j := 0) c13.out rfl
  have b1 := cell_heap (j := 1) c13.out rfl
  have hxy : IntKind.u64.wrap ((X : Int) + (Y : Int)) = 1152921504606846976 := by
    have := HXY.out.2.1
    rw [show (X : Int) + (Y : Int) = 1152921504606846976 by omega]
    decide
  have hxy1 : (X : Int) + (Y : Int) = 1152921504606846976 := by have := HXY.out.2.1; omega
  have hx0 : ((X : Int) == 0) = ((f : Int) == 0) := by
    have := HXY.out.2.2
    rw [Bool.eq_iff_iff]
    simp
    omega
  clear c12 c13
  rcases Nat.eq_zero_or_pos f with hf0 | hf0
  · have e1 : ((X : Int) == 0) = true := by rw [hx0, hf0]; rfl
    have e2 : ((f : Int) == 0) = true := by rw [hf0]; rfl
    clear hx0
    go_wp2_with fail
    refine (most_any 60 w9 (by omega)).mono ?_
    rintro e wa ⟨va, rfl, hown, hbl⟩
    obtain ⟨Aa, ca, rfl⟩ := own_slice hown
    have Ma := hide (M8.out.below hbl)
    have HC := hide (Least_zero S k4 s4 Aa ca (List.range 60) wa Ma.out.L.ar Ma.out.L.g0 (rise_range 60) hall.out hin.out (by rw [List.length_range]; exact src_of_own hown) (by rw [List.length_range]; omega) hm2.out)
    rw [hp4.out, List.length_range] at HC
    clear hown hbl M8
    go_wp2_with fail
    refine HC.out.mono ?_
    rintro e wb ⟨rfl, hb⟩
    have HB := hide (Ma.out.below hb).b
    clear hb HC Ma
    go_wp2_with fail
    go_ret
    exact ⟨rfl, HB.out⟩
  · have e2 : ((f : Int) == 0) = false := by simp; omega
    have e1 : ((X : Int) == 0) = false := by rw [hx0, e2]
    clear hx0
    go_wp2_with fail
    refine (most_any 60 w9 (by omega)).mono ?_
    rintro e wa ⟨va, rfl, hown, hbl⟩
    obtain ⟨Aa, ca, rfl⟩ := own_slice hown
    have Ma := hide (M8.out.below hbl)
    have HC := hide (Least_any S k4 s4 f _ F Aa ca (List.range 60) wa Ma.out.L.ar hv256.out Nf.out.1 Nf.out.2.choose_spec (by omega) (rise_range 60) hall.out hin.out (by rw [List.length_range]; exact src_of_own hown) (by rw [List.length_range]; omega) hm2.out)
    rw [hp4.out, List.length_range] at HC
    have HLT := hide (least_true Ma.out.L Nf.out (n := 60) (fun x hx => by have := HSS.out.2 x hx; omega) (by omega))
    have HLN := hide (fun (i : Nat) (hi : (lst s4.nd (List.range 60) f)[i]? = some true) => least_none Ma.out.L Nf.out hi vals)
    have HLL : Hid ((lst s4.nd (List.range 60) f).length = 60) := hide (by rw [lst_len, List.length_range])
    clear hown hbl M8 a0 a1 b0 b1
    go_wp2_with fail
    refine HC.out.mono ?_
    intro e wb hh
    unfold LeastOut at hh
    rw [List.length_range] at hh
    obtain ⟨g, rfl, hg, hrow, hb⟩ := hh
    have Mb := hide (show Cl w k4 s4 g (lst s4.nd (List.range 60) f) wb from ⟨Ma.out.below hb, hrow⟩)
    clear hb HC hrow hg Ma
    generalize lst s4.nd (List.range 60) f = l at *
    have hat : Hid (∀ (l' : List Bool) (w' : World) (A' : Option Addr) (c' : Nat), Live w' k4 s4 → l'.length = 60 → Src w' A' 60 c' 1 (l'.map Value.bool) → Calls Try.prog 14 #[.pointer (some ⟨k1.p, 0, none⟩), .int .i64 f, .slice A' 60 c'] w' fun e w'' => e = .returned (.tuple #[.bool (F (envOf l')), .int .i64 0]) ∧ Below w'.heap.size w' w'') := hide (by
      intro l' w' A' c' L' hl' hs'
      have h := At_any S k4 s4 f _ F A' c' l' w' L'.ar Nf.out.1 Nf.out.2.choose_spec (by rw [hl']; exact hs') (by rw [hl', Q4.out.vs]) hv256.out (fun x hx => by rw [Q4.out.vs]; have := HSS.out.2 x hx; omega) hm2.out
      rw [hp4.out, hl'] at h
      exact h)
    have HC := hide (hat.out l wb (some ⟨g, 0, none⟩) 60 Mb.out.m.L HLL.out (by have := Mb.out.row.src; rw [HLL.out] at this; exact this))
    rw [HLT.out] at HC
    go_wp2_with fail
    refine HC.out.mono ?_
    rintro e wc ⟨rfl, hb⟩
    have Mc := hide (Mb.out.below hb)
    clear hb HC Mb
    go_wp2_with fail
    obtain ⟨i2, hi2, iz2, is2, ib2⟩ := info_at infoB
    go_loopw [18] (fun j wr => ∃ i : Nat, j = .int .i64 i ∧ i ≤ 60 ∧ Cl w k4 s4 g l wr) (fun j _ => 60 - (intOf j).toNat)
    case atStart => exact ⟨0, rfl, Nat.zero_le _, Mc.out⟩
    case round =>
      rename World => wo
      obtain ⟨i, rfl, hi, hx⟩ := hrel
      have HX := hide hx
      clear hx
      rcases Nat.lt_or_ge i 60 with hlt | hge
      · have d1 : decide (i < 60) = true := by simpa using hlt
        have d1' : decide ((i : Int) < 60) = true := by simp; omega
        obtain ⟨b, hb⟩ : ∃ b, l[i]? = some b := ⟨_, List.getElem?_eq_getElem (by rw [HLL.out]; exact hlt)⟩
        have cb := HX.out.row.cell hb
        cases b
        · clear hb
          go_wp2_with fail
          go_roundw
          case rel => exact ⟨i + 1, by go_num, by omega, HX.out⟩
          case measure => simp [intOf]; omega
        · have HNO := hide (HLN.out i hb)
          clear hb
          have hil : i ≤ l.length := by rw [HLL.out]; omega
          have htl : (l.take i).length = i := by rw [List.length_take]; omega
          have him : i ≤ maxLen := by unfold maxLen; omega
          have hsrc : ∀ j u, ((l.take i).map Value.bool)[j]? = some u → (wo.alloc (.cells #[] 4)).cell? ((⟨g, 0, none⟩ : Addr).add j) = some u := by
            intro j u hj
            rw [List.getElem?_map] at hj
            obtain ⟨b, hb, rfl⟩ := Option.map_eq_some_iff.1 hj
            have hjl : j < i := by have := (List.getElem?_eq_some_iff.1 hb).1; omega
            rw [List.getElem?_take_of_lt hjl] at hb
            have := ((HX.out.below (bel_one wo (.cells #[] 4))).row).cell hb
            rw [show (⟨g, 0, none⟩ : Addr).add j = ⟨g, j, none⟩ by simp [Addr.add, eq_comm]]
            exact this
          have HOE := hide (own_empty wo 4)
          have HSR := hide hsrc
          clear hsrc
          go_wp2_with (at_builtin; go_must (refine wpList_append_own _ rfl (.tmp 130) (.tmp 133) 23 rfl wo.heap.size 4 i2 _ 1 1 Try.underlying23 hi2 iz2 is2 ib2 rfl (by decide) _ 0 [] rfl HOE.out ⟨g, 0, none⟩ i 60 ((l.take i).map Value.bool) rfl ?len HSR.out ?ones ?c63 ?cby ?cbase ?_))
          case len => simp; omega
          case ones => intro u hu; obtain ⟨b, _, rfl⟩ := List.mem_map.1 hu; rfl
          case c63 => unfold maxLen; omega
          case cby => omega
          case cbase => simp
          intro v1 u1 hown hgrow _
          try rw [Nat.zero_add] at hown
          replace hown : u1.ownsRow wo.heap.size 4 1 v1 i ((l.take i).map Value.bool) := by rw [List.map_take]; exact hown
          have HO1 := hide (hown.alloc (.cells #[.bool false] 4))
          have hb1 : Below wo.heap.size wo u1 := ((Below.refl _ wo).alloc (Nat.le_refl _) _).grown hgrow (by simp) (fun k hk => (HOE.out.lt k hk).1)
          have HB1 := hide (hb1.alloc hb1.size (.cells #[.bool false] 4))
          have HBS := hide hb1.size
          obtain ⟨A1, c1, rfl⟩ := own_slice hown
          clear hown hgrow hb1 HSR HOE
          go_wp2_with (at_builtin; go_must (refine wpList_append_own _ rfl (.tmp 134) (.tmp 135) 23 rfl wo.heap.size 4 i2 _ 1 1 Try.underlying23 hi2 iz2 is2 ib2 rfl (by decide) _ i ((l.take i).map Value.bool) rfl HO1.out ⟨u1.heap.size, 0, none⟩ 1 1 [.bool false] rfl rfl (cell_one_new _ _ _) ?ones ?c63 ?cby ?cbase ?_))
          case ones => simp [Value.oneCell']
          case c63 => unfold maxLen; omega
          case cby => omega
          case cbase => have := HBS.out; simp; omega
          intro v2 u2 hown hgrow _
          have hown2 : u2.ownsRow wo.heap.size 4 1 v2 (i + 1) ((wN l vals i (i + 1)).map Value.bool) := by rw [wN_first, List.map_append, List.map_take]; exact hown
          have HO2 := hide hown2
          have HB2 := hide (HB1.out.grown hgrow (by have := HBS.out; simp; omega) (fun k hk => (HO1.out.lt k hk).1))
          clear hown hgrow hown2 HO1 HB1 HBS
          obtain ⟨A2, c2, rfl⟩ := own_slice HO2.out
          go_wp2_with fail
          go_loopw [19] (fun v w5 => ∃ n : Nat, i + 1 ≤ n ∧ n ≤ 60 ∧ w5.ownsRow wo.heap.size 4 1 v n ((wN l vals i n).map Value.bool) ∧ Below wo.heap.size wo w5) (fun v _ => 60 - lenV v)
          case atStart => exact ⟨i + 1, Nat.le_refl _, by omega, HO2.out, HB2.out⟩
          case round =>
            obtain ⟨n, hn1, hn2, hown, hbw⟩ := hrel
            have hlv := own_lenV hown
            obtain ⟨A5, c5, rfl⟩ := own_slice hown
            have HO := hide hown
            have HBW := hide hbw
            have hbz := hbw.size
            have hwl : (wN l vals i n).length = n := wN_len hil hn1
            rcases Nat.lt_or_ge n 60 with hlt6 | hge6
            · have q1 : decide (n < 60) = true := by simpa using hlt6
              have q1' : decide ((n : Int) < 60) = true := by simp; omega
              have HNX := hide (wN_next (l := l) (vals := vals) hn1)
              have HV5 := HVB.out.below (below_wide HX.out.m.b hbw)
              clear hown hbw
              rcases Nat.lt_or_ge n vals.length with hv | hv
              · have q2 : decide (n < vals.length) = true := by simpa using hv
                have q2' : decide ((n : Int) < vals.length) = true := by simp; omega
                have q3 : ((n : Int) < vals.length) := by omega
                obtain ⟨bv, hbv⟩ : ∃ bv, vals[n]? = some bv := ⟨_, List.getElem?_eq_getElem hv⟩
                obtain ⟨av, rfl, cv5⟩ := srcB_at HV5 hbv
                have hvb : vb vals n = bv := by unfold vb; rw [q2, List.getD_eq_getElem?_getD, hbv]; rfl
                have HVV := hide hvb
                have HO5 := hide (HO.out.alloc (.cells #[.bool bv] 4))
                clear hbv hvb HV5
                go_wp2_with (at_builtin; go_must (refine wpList_append_own _ rfl (.tmp 140) (.tmp 153) 23 rfl wo.heap.size 4 i2 _ 1 1 Try.underlying23 hi2 iz2 is2 ib2 rfl (by decide) _ n ((wN l vals i n).map Value.bool) rfl HO5.out ⟨wr.heap.size, 0, none⟩ 1 1 [.bool bv] rfl rfl (cell_one_new _ _ _) ?ones ?c63 ?cby ?cbase ?_))
                case ones => simp [Value.oneCell']
                case c63 => unfold maxLen; omega
                case cby => omega
                case cbase => simp; omega
                intro v6 w6 hown hgrow _
                have hown2 : w6.ownsRow wo.heap.size 4 1 v6 (n + 1) ((wN l vals i (n + 1)).map Value.bool) := by rw [HNX.out, List.map_append, HVV.out]; exact hown
                have HO6 := hide hown2
                have HB6 := hide ((HBW.out.alloc hbz (.cells #[.bool bv] 4)).grown hgrow (by simp; omega) (fun k hk => (HO.out.lt k hk).1))
                have hlv6 := own_lenV hown2
                clear hown hgrow hown2
                obtain ⟨A6, c6, rfl⟩ := own_slice HO6.out
                go_wp2_with fail
                go_roundw
                case rel => exact ⟨n + 1, by omega, by omega, HO6.out, HB6.out⟩
                case measure => simp [lenV]; omega
              · have q2 : decide (n < vals.length) = false := by simp; omega
                have q2' : decide ((n : Int) < vals.length) = false := by simp; omega
                have hvb : vb vals n = false := by unfold vb; rw [q2]; rfl
                have HVV := hide hvb
                have HO5 := hide (HO.out.alloc (.cells #[.bool false] 4))
                clear hvb HV5
                go_wp2_with (at_builtin; go_must (refine wpList_append_own _ rfl (.tmp 140) (.tmp 153) 23 rfl wo.heap.size 4 i2 _ 1 1 Try.underlying23 hi2 iz2 is2 ib2 rfl (by decide) _ n ((wN l vals i n).map Value.bool) rfl HO5.out ⟨wr.heap.size, 0, none⟩ 1 1 [.bool false] rfl rfl (cell_one_new _ _ _) ?ones ?c63 ?cby ?cbase ?_))
                case ones => simp [Value.oneCell']
                case c63 => unfold maxLen; omega
                case cby => omega
                case cbase => simp; omega
                intro v6 w6 hown hgrow _
                have hown2 : w6.ownsRow wo.heap.size 4 1 v6 (n + 1) ((wN l vals i (n + 1)).map Value.bool) := by rw [HNX.out, List.map_append, HVV.out]; exact hown
                have HO6 := hide hown2
                have HB6 := hide ((HBW.out.alloc hbz (.cells #[.bool false] 4)).grown hgrow (by simp; omega) (fun k hk => (HO.out.lt k hk).1))
                have hlv6 := own_lenV hown2
                clear hown hgrow hown2
                obtain ⟨A6, c6, rfl⟩ := own_slice HO6.out
                go_wp2_with fail
                go_roundw
                case rel => exact ⟨n + 1, by omega, by omega, HO6.out, HB6.out⟩
                case measure => simp [lenV]; omega
            · have e : n = 60 := by omega
              have q1 : decide (n < 60) = false := by simp; omega
              have q1' : decide ((n : Int) < 60) = false := by simp; omega
              subst e
              have Md := hide (HX.out.below hbw)
              have HC := hide (hat.out (wN l vals i 60) wr A5 c5 Md.out.m.L hwl (src_of_own hown))
              rw [HNO.out] at HC
              clear hown hbw
              go_wp2_with fail
              refine HC.out.mono ?_
              rintro e we ⟨rfl, hb⟩
              have Me := hide (Md.out.below hb)
              clear hb HC Md
              go_wp2_with fail
              go_roundw
              case rel => exact ⟨i + 1, by go_num, by omega, Me.out⟩
              case measure => simp [intOf]; omega
      · have e : i = 60 := by omega
        have d1 : decide (i < 60) = false := by simp; omega
        have d1' : decide ((i : Int) < 60) = false := by simp; omega
        clear e
        go_wp2_with fail
        go_ret
        exact ⟨rfl, HX.out.m.b⟩
end Go.Proofs.Ytgfjdkkfgclhjaa.Bd
