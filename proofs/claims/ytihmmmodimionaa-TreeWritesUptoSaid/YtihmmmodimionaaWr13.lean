/- What the claim leans on, part 13 of 16: YJ YD YK YL YHA YM YN YO. -/
import Derived.ChangeMaps5
import Derived.Deep.DeepHandedRow
import Derived.Deep.Slices
import Derived.Deep.Strs
import Derived.OpenShut
import Derived.ProofKit
import Derived.RowKitTokens
import Derived.ShutString
import Derived.SizedLaws
import Derived.Test.YtihmmmodimionaaRows
import Derived.Test.YtihmmmodimionaaWr01
import Derived.Test.YtihmmmodimionaaWr02
import Derived.Test.YtihmmmodimionaaWr03
import Derived.Test.YtihmmmodimionaaWr04
import Derived.Test.YtihmmmodimionaaWr05
import Derived.Test.YtihmmmodimionaaWr06
import Derived.Test.YtihmmmodimionaaWr07
import Derived.Test.YtihmmmodimionaaWr08
import Derived.Test.YtihmmmodimionaaWr09
import Derived.Test.YtihmmmodimionaaWr10
import Derived.Test.YtihmmmodimionaaWr11
import Derived.Test.YtihmmmodimionaaWr12
/- What the arguments of the statements on trees read as; what the bound on their bulk gives. -/
namespace Go.Proofs.Ytihmmmodimionaa.Tr
open Go.ChangeShapes Go.WideShapes Go.ChangeAt Go.RowKit Go.Proofs.Ytihmmmodimionaa Go.Proofs.Ytihmmmodimionaa.Lx

theorem cellsRow : Try.prog.cellsOf 62 = 4 := by kernel_rfl
theorem cellsStr : Try.prog.cellsOf 9 = 1 := by kernel_rfl
theorem cellsStrs : Try.prog.cellsOf 41 = 1 := by kernel_rfl
theorem cellsPoss : Try.prog.cellsOf 42 = 1 := by kernel_rfl
theorem cellsInt : Try.prog.cellsOf 3 = 1 := by kernel_rfl
theorem cellsBool : Try.prog.cellsOf 4 = 1 := by kernel_rfl
theorem bulk_one {H : Type} (d : DataW H) : 1 ≤ Rows.uptoBulk d := by
  cases d with
  | lit l => cases l <;> simp [Rows.uptoBulk]
  | nil => simp [Rows.uptoBulk]
  | ptr d => simp [Rows.uptoBulk]
  | slice elems spare => simp [Rows.uptoBulk]
  | agg parts => simp [Rows.uptoBulk]
  | iface t d => simp [Rows.uptoBulk]
  | map entries => simp [Rows.uptoBulk]
  | held h => simp [Rows.uptoBulk]
theorem bulk_part {H : Type} {d : DataW H} {l : List (DataW H)} (h : d ∈ l) : Rows.uptoBulk d ≤ Rows.uptoBulkAll l := by
  induction l with
  | nil => cases h
  | cons x r ih =>
    simp only [Rows.uptoBulkAll]
    cases List.mem_cons.1 h with
    | inl e => subst e; omega
    | inr e => have := ih e; omega
theorem bulk_len {H : Type} (l : List (DataW H)) : l.length ≤ Rows.uptoBulkAll l := by
  induction l with
  | nil => simp [Rows.uptoBulkAll]
  | cons x r ih => have := bulk_one x; simp only [Rows.uptoBulkAll, List.length_cons]; omega
theorem bulk_all {H : Type} {l : List (DataW H)} (hk : Rows.uptoSmall H l = true) : Rows.uptoBulkAll l ≤ 1048576 := of_decide_eq_true hk
theorem bulk_elems {H : Type} (el sp : List (DataW H)) : Rows.uptoBulkAll el + 1 ≤ Rows.uptoBulk (.slice el sp) := by
  simp only [Rows.uptoBulk]
  omega
theorem bulk_agg {H : Type} (l : List (DataW H)) : Rows.uptoBulkAll l + 1 ≤ Rows.uptoBulk (.agg l) := by
  simp only [Rows.uptoBulk]
  omega
theorem bulk_str {H : Type} (b : List UInt8) : Rows.uptoBulk (DataW.lit (H := H) (.string b)) = b.length + 1 := by simp [Rows.uptoBulk]
section
variable {H : Type} {enc : TypeId × Value → H} {w : World} {base : Nat} {spare : Nat → Bool} {held : Bool}
/-- a row of words, as it comes in -/
theorem open_words {n : Nat} {cs : List Value} {x : DataW H × List MemPlace} (h : DataW.trod enc Try.prog w base spare held n 41 cs = some x) :
    ∃ (A : Option Addr) (c : Nat) (ws : List ByteArray), cs = [.slice A ws.length c] ∧ Src w A ws.length c 1 (ws.map Value.string) ∧ (∀ u ∈ ws, u.size ≤ Rows.uptoBulk x.1) ∧ ws.length ≤ Rows.uptoBulk x.1 ∧ (ws.length ≠ 0 → ∀ a, A = some a → a.block < w.heap.size ∧ ws.length ≤ c) := by
  rcases Go.Deep.open_strs Try.underlying41 Try.underlying9 cellsStr h with ⟨hcs, hx⟩ | ⟨a, len, cap, m, Sx, hcs, _, hl, hm, hmm, hx, hi⟩
  · exact ⟨none, 0, [], hcs, ⟨rfl, .inl ⟨rfl, rfl, rfl⟩⟩, fun u hu => (by cases hu), Nat.zero_le _, fun h => absurd rfl h⟩
  · have hlm : len ≤ m := by rw [hmm]; split <;> omega
    have hlen : ((List.range len).map Sx).length = len := by simp
    have hmem : ∀ i, i < len → (Sx i).size + 1 ≤ Rows.uptoBulk x.1 := fun i hi => by
      have h1 := bulk_part (H := H) (d := .lit (.string (Sx i).data.toList)) (l := (List.range len).map fun i => .lit (.string (Sx i).data.toList)) (List.mem_map.2 ⟨i, List.mem_range.2 hi, rfl⟩)
      rw [bulk_str, Array.length_toList] at h1
      have h2 := bulk_elems ((List.range len).map fun i => DataW.lit (H := H) (.string (Sx i).data.toList)) ((List.range (m - len)).map fun j => .lit (.string (Sx (len + j)).data.toList))
      rw [hx]
      have h3 : (Sx i).size = (Sx i).data.size := rfl
      simp only
      omega
    refine ⟨some a, cap, (List.range len).map Sx, by rw [hlen]; exact hcs, ⟨by simp, .inr ⟨a, rfl, fun j u hj => ?_⟩⟩, fun u hu => ?_, ?_, fun h0 q hq => ?_⟩
    · have hjl : j < len := by
        have := (List.getElem?_eq_some_iff.1 hj).1
        simpa using this
      rw [List.getElem?_map, List.getElem?_map, List.getElem?_range hjl] at hj
      injection hj with hj
      rw [← hj]
      exact (hi j (by omega)).1
    · obtain ⟨i, hir, rfl⟩ := List.mem_map.1 hu
      have := hmem i (List.mem_range.1 hir)
      omega
    · rw [hlen]
      have h1 := bulk_len ((List.range len).map fun i => DataW.lit (H := H) (.string (Sx i).data.toList))
      have h2 := bulk_elems ((List.range len).map fun i => DataW.lit (H := H) (.string (Sx i).data.toList)) ((List.range (m - len)).map fun j => .lit (.string (Sx (len + j)).data.toList))
      rw [List.length_map, List.length_range] at h1
      rw [hx]
      simp only
      omega
    · cases hq
      rw [hlen] at h0
      have h1 := (hi 0 (by omega)).1
      refine ⟨?_, by rw [hlen]; exact hl⟩
      have h2 := World.block_lt_of_cell? w _ h1
      rw [add_block] at h2
      exact h2
def rowI (r : RowI) (vw : Value) (A : Option Addr) (n c : Nat) : List Value := [.int .i64 r.deep, vw, .slice A n c, .bool r.op]
set_option maxRecDepth 100000 in
/-- a row, as it comes in -/
theorem open_rowI {n : Nat} {cs : List Value} {x : DataW H × List MemPlace} (h : DataW.trod enc Try.prog w base spare held n 62 cs = some x) :
    ∃ (r : RowI) (vw : Value) (A : Option Addr) (k c : Nat), cs = rowI r vw A k c ∧ ((∃ Aw cw, vw = .slice Aw r.ws.length cw) ∧ (r.ws.length ≠ 0 → StrV w (fun q => q < w.heap.size) vw r.ws)) ∧ (∀ u ∈ r.ws, u.size ≤ Rows.uptoBulk x.1) := by
  obtain ⟨xs, m, _, hxe, hl, hxl, hf⟩ := DataW.trod_struct Try.underlying62 h
  rw [cellsRow] at hl
  match cs, hl with
  | [c0, c1, c2, c3], _ =>
    have g0 : DataW.trod enc Try.prog w base spare held m 3 ((List.drop 0 [c0, c1, c2, c3]).take (Try.prog.cellsOf 3)) = xs[0]? := hf 0 _ rfl
    rw [cellsInt] at g0
    change DataW.trod enc Try.prog w base spare held m 3 [c0] = _ at g0
    have g1 : DataW.trod enc Try.prog w base spare held m 41 ((List.drop 1 [c0, c1, c2, c3]).take (Try.prog.cellsOf 41)) = xs[1]? := hf 1 _ rfl
    rw [cellsStrs] at g1
    change DataW.trod enc Try.prog w base spare held m 41 [c1] = _ at g1
    have g2 : DataW.trod enc Try.prog w base spare held m 42 ((List.drop 2 [c0, c1, c2, c3]).take (Try.prog.cellsOf 42)) = xs[2]? := hf 2 _ rfl
    rw [cellsPoss] at g2
    change DataW.trod enc Try.prog w base spare held m 42 [c2] = _ at g2
    have g3 : DataW.trod enc Try.prog w base spare held m 4 ((List.drop 3 [c0, c1, c2, c3]).take (Try.prog.cellsOf 4)) = xs[3]? := hf 3 _ rfl
    rw [cellsBool] at g3
    change DataW.trod enc Try.prog w base spare held m 4 [c3] = _ at g3
    have l0 : 0 < xs.length := by rw [hxl]; decide
    have l1 : 1 < xs.length := by rw [hxl]; decide
    have l2 : 2 < xs.length := by rw [hxl]; decide
    have l3 : 3 < xs.length := by rw [hxl]; decide
    rw [List.getElem?_eq_getElem l0] at g0
    rw [List.getElem?_eq_getElem l1] at g1
    rw [List.getElem?_eq_getElem l2] at g2
    rw [List.getElem?_eq_getElem l3] at g3
    obtain ⟨dp, e0, _, _⟩ := DataW.trod_int Try.underlying3 g0
    obtain ⟨Aw, cw, ws, e1, hsrc, hsz, _, hbl⟩ := open_words g1
    obtain ⟨op, e3, _⟩ := DataW.trod_bool Try.underlying4 g3
    have e2 : ∃ A k c, c2 = .slice A k c := by
      rcases Go.Deep.open_slice Try.underlying42 g2 with ⟨hcs, _⟩ | ⟨a, len, cap, _, _, _, _, hcs, _⟩
      · exact ⟨none, 0, 0, by simpa using hcs⟩
      · exact ⟨some a, len, cap, by simpa using hcs⟩
    obtain ⟨A, k, c, rfl⟩ := e2
    simp only [List.cons.injEq, and_true] at e0 e1 e3
    subst e0 e1 e3
    have hb : Rows.uptoBulk xs[1].1 ≤ Rows.uptoBulk x.1 := by
      have h1 := bulk_part (List.mem_map.2 ⟨xs[1], List.getElem_mem l1, rfl⟩ : xs[1].1 ∈ xs.map (·.1))
      have h2 := bulk_agg (xs.map (·.1))
      rw [hxe]
      simp only
      omega
    exact ⟨⟨dp, ws, op⟩, _, A, k, c, rfl, ⟨⟨Aw, cw, rfl⟩, fun h0 => ⟨Aw, cw, rfl, hsrc, hbl h0⟩⟩, fun u hu => Nat.le_trans (hsz u hu) hb⟩
theorem flat4 (f : Nat → List Value) (hf : ∀ i, (f i).length = 4) : ∀ (n j : Nat), ((List.range n).flatMap f)[j]? = if j < n * 4 then (f (j / 4))[j % 4]? else none
  | 0, j => by simp
  | n + 1, j => by
    have ih := flat4 f hf n j
    have hl : ((List.range n).flatMap f).length = n * 4 := by
      clear ih
      induction n with
      | zero => rfl
      | succ n ih => rw [List.range_succ, List.flatMap_append, List.length_append, ih]; simp [hf]; omega
    rw [List.range_succ, List.flatMap_append]
    by_cases hj : j < n * 4
    · rw [List.getElem?_append_left (by omega), ih, if_pos hj, if_pos (by omega)]
    · rw [List.getElem?_append_right (by omega), hl]
      simp only [List.flatMap_cons, List.flatMap_nil, List.append_nil]
      by_cases hj2 : j < (n + 1) * 4
      · rw [if_pos hj2, show j / 4 = n by omega, show j - n * 4 = j % 4 by omega]
      · rw [if_neg hj2, List.getElem?_eq_none (by rw [hf]; omega)]
theorem riv_of {B : Nat → Prop} (R : Nat → RowI) (V : Nat → Value) (A : Nat → Option Addr) (k c : Nat → Nat) : ∀ (l : List Nat), (∀ i ∈ l, (∃ Aw cw, V i = .slice Aw (R i).ws.length cw) ∧ ((R i).ws.length ≠ 0 → StrV w B (V i) (R i).ws)) → RiV w B (l.map R) (l.flatMap fun i => rowI (R i) (V i) (A i) (k i) (c i))
  | [], _ => rfl
  | i :: l, h => ⟨V i, A i, k i, c i, _, rfl, h i (by simp), riv_of R V A k c l (fun j hj => h j (by simp [hj]))⟩
/-- rows, as they come in -/
theorem open_rows {fuel : Nat} {cs : List Value} {x : DataW H × List MemPlace} (h : DataW.trod enc Try.prog w 0 (fun _ => true) held fuel 49 cs = some x) :
    ∃ (A : Option Addr) (c : Nat) (L : List RowI) (xs : List Value), cs = [.slice A L.length c] ∧ Src w A L.length c 4 xs ∧ RiV w (fun q => q < w.heap.size) L xs ∧ (∀ r ∈ L, ∀ u ∈ r.ws, u.size ≤ Rows.uptoBulk x.1) ∧ L.length ≤ Rows.uptoBulk x.1 := by
  rcases Go.Deep.open_slice Try.underlying49 h with ⟨hcs, _⟩ | ⟨a, len, cap, m, n, D, Pl, hcs, _, hl, hm, hmm, hx, hi⟩
  · exact ⟨none, 0, [], [], hcs, ⟨rfl, .inl ⟨rfl, rfl, rfl⟩⟩, rfl, fun r hr => (by cases hr), Nat.zero_le _⟩
  · simp only [if_true] at hmm
    have hall : ∀ i, i < len → ∃ (y : RowI × Value × Option Addr × Nat × Nat), (∀ j, j < 4 → w.cell? (a.add (i * 4 + j)) = (rowI y.1 y.2.1 y.2.2.1 y.2.2.2.1 y.2.2.2.2)[j]?) ∧ ((∃ Aw cw, y.2.1 = .slice Aw y.1.ws.length cw) ∧ (y.1.ws.length ≠ 0 → StrV w (fun q => q < w.heap.size) y.2.1 y.1.ws)) ∧ (∀ u ∈ y.1.ws, u.size ≤ Rows.uptoBulk (D i)) := by
      intro i hil
      obtain ⟨cs', hc, ht⟩ := hi i (by omega)
      rw [cellsRow] at hc
      obtain ⟨_, hlen, hat⟩ := World.cells?_some hc
      obtain ⟨r, vw, A, k, c, rfl, h1, h2⟩ := open_rowI ht
      exact ⟨(r, vw, A, k, c), fun j hj => by rw [← Go.Deep.add_add]; exact hat j hj, h1, h2⟩
    obtain ⟨y, hy⟩ : ∃ y : Nat → RowI × Value × Option Addr × Nat × Nat, ∀ i, i < len → (∀ j, j < 4 → w.cell? (a.add (i * 4 + j)) = (rowI (y i).1 (y i).2.1 (y i).2.2.1 (y i).2.2.2.1 (y i).2.2.2.2)[j]?) ∧ ((∃ Aw cw, (y i).2.1 = .slice Aw (y i).1.ws.length cw) ∧ ((y i).1.ws.length ≠ 0 → StrV w (fun q => q < w.heap.size) (y i).2.1 (y i).1.ws)) ∧ (∀ u ∈ (y i).1.ws, u.size ≤ Rows.uptoBulk (D i)) := by
      classical
      refine ⟨fun i => if hi : i < len then Classical.choose (hall i hi) else (⟨0, [], false⟩, .nilIface, none, 0, 0), fun i hi => ?_⟩
      simp only [dif_pos hi]
      exact Classical.choose_spec (hall i hi)
    have hlen : ((List.range len).map fun i => (y i).1).length = len := by simp
    have hfl := flat4 (fun i => rowI (y i).1 (y i).2.1 (y i).2.2.1 (y i).2.2.2.1 (y i).2.2.2.2) (fun _ => rfl)
    have hxl : ((List.range len).flatMap fun i => rowI (y i).1 (y i).2.1 (y i).2.2.1 (y i).2.2.2.1 (y i).2.2.2.2).length = len * 4 := by
      have h1 := (riv_of (w := w) (fun i => (y i).1) (fun i => (y i).2.1) (fun i => (y i).2.2.1) (fun i => (y i).2.2.2.1) (fun i => (y i).2.2.2.2) (List.range len) (fun i hi => (hy i (List.mem_range.1 hi)).2.1))
      clear hfl hx hi hmm hcs hall hlen h1 hy
      induction len with
      | zero => rfl
      | succ n ih => rw [List.range_succ, List.flatMap_append, List.length_append, ih (by omega)]; simp [rowI]; omega
    refine ⟨some a, cap, (List.range len).map (fun i => (y i).1), (List.range len).flatMap fun i => rowI (y i).1 (y i).2.1 (y i).2.2.1 (y i).2.2.2.1 (y i).2.2.2.2, by rw [hlen]; exact hcs, ⟨by rw [hlen, hxl], .inr ⟨a, rfl, fun j u hj => ?_⟩⟩, riv_of _ _ _ _ _ _ (fun i hi => (hy i (List.mem_range.1 hi)).2.1), fun r hr u hu => ?_, ?_⟩
    · rw [hfl] at hj
      by_cases hjl : j < len * 4
      · rw [if_pos hjl] at hj
        have h1 := (hy (j / 4) (by omega)).1 (j % 4) (Nat.mod_lt _ (by omega))
        rw [show j / 4 * 4 + j % 4 = j by omega, hj] at h1
        exact h1
      · rw [if_neg hjl] at hj; cases hj
    · obtain ⟨i, hir, rfl⟩ := List.mem_map.1 hr
      have hil := List.mem_range.1 hir
      have h1 := (hy i hil).2.2 u hu
      have h2 := bulk_part (H := H) (d := D i) (l := (List.range len).map D) (List.mem_map.2 ⟨i, hir, rfl⟩)
      have h3 := fun sp => bulk_elems ((List.range len).map D) sp
      rw [hx]
      simp only
      exact Nat.le_trans h1 (Nat.le_trans h2 (Nat.le_trans (Nat.le_succ _) (h3 _)))
    · rw [hlen, hx]
      have h1 := bulk_len ((List.range len).map D)
      rw [List.length_map, List.length_range] at h1
      have h3 := fun sp => bulk_elems ((List.range len).map D) sp
      simp only
      exact Nat.le_trans h1 (Nat.le_trans (Nat.le_succ _) (h3 _))
end
/-- there is an input that fits, at a world that is written out -/
theorem witness_cond {H : Type} {enc : TypeId × Value → H} {C : Checked} {os : Os} {f : FuncId} {fn : Func} {s : OpenSpec} {conds : List PathCond} {apart : Bool} {laid : List (String × DataW Unit)} (w0 : World) (args : Array Value) (hos : w0.os = os)
    (hsh : (w0.forCall (fun _ _ => 0) ⟨#[], args, []⟩).Shaped C.prog)
    (hok : Input.okWideB C.prog (w0.forCall (fun _ _ => 0) ⟨#[], args, []⟩) f ⟨#[], args, []⟩ = true)
    (hrow : s.preRow enc C.prog fn conds apart laid (w0.forCall (fun _ _ => 0) ⟨#[], args, []⟩).memory args) :
    ∃ (w : World) (tape : Tape) (i : Input), w.os = os ∧ (w.forCall tape i).Shaped C.prog ∧ i.vars = [] ∧ Input.okWide C.prog (w.forCall tape i) .any w.heap.size f i ∧
      s.preRow enc C.prog fn conds apart laid (w.forCall tape i).memory i.args ∧ ({} : Assume).holds C.prog (lone (Frame.enter C.prog f i.args .normal) [] (w.forCall tape i)) :=
  ⟨w0, fun _ _ => 0, ⟨#[], args, []⟩, hos, hsh, (Input.okWide_of_okWideB (base := 0) hok).1, (Input.okWide_of_okWideB hok).2, hrow, by
    simp only [Assume.holds]
    exact ⟨by simp, by simp, fun _ => Modest.zero, by simp, by simp⟩⟩
end Go.Proofs.Ytihmmmodimionaa.Tr
/- tree.Same, walked: it tells whether statements are the same, places aside. -/
namespace Go.Proofs.Ytihmmmodimionaa.Tr
open Go.RowKit Go.Proofs.Ytihmmmodimionaa Go.Proofs.Ytihmmmodimionaa.Lx

def sameF : Fo → Fo → Bool
  | .nil, .nil => true
  | .cons ws _ b K R, .cons us _ c L S => ((b == c) && (decide (ws = us) && sameF K L)) && sameF R S
  | .nil, .cons _ _ _ _ _ => false
  | .cons _ _ _ _ _, .nil => false
theorem sameF_len : ∀ {F G : Fo}, F.len ≠ G.len → sameF F G = false
  | .nil, .nil, h => absurd rfl h
  | .nil, .cons _ _ _ _ _, _ => rfl
  | .cons _ _ _ _ _, .nil, _ => rfl
  | .cons ws _ b K R, .cons us _ c L S, h => by
    rw [sameF, sameF_len (F := R) (G := S) (fun e => h (by simp [Fo.len, e]))]
    simp
theorem sameF_refl : ∀ F : Fo, sameF F F = true
  | .nil => rfl
  | .cons ws _ b K R => by rw [sameF, sameF_refl K, sameF_refl R]; simp
abbrev SmO (v : Bool) (w : World) (e : Ending) (w' : World) : Prop := e = .returned (.bool v) ∧ Below w.heap.size w w'
set_option maxHeartbeats 2000000 in
set_option maxRecDepth 100000 in
theorem same1_walk (ws us : List ByteArray) (K L : Fo) (Aw Bw Ak Bk : Option Addr) (cw dw ck dk : Nat) (vp vq : Value) (b b' : Bool) (w : World) (hws : Src w Aw ws.length cw 1 (ws.map Value.string)) (hus : Src w Bw us.length dw 1 (us.map Value.string)) (hl1 : ws.length ≤ 1099511627776) (hl2 : us.length ≤ 1099511627776)
    (HREC : Hid (∀ x, Below w.heap.size w x → Calls Try.prog 23 #[.slice Ak K.len ck, .slice Bk L.len dk] x (SmO (sameF K L) x))) :
    Calls Try.prog 48 #[.agg #[.slice Aw ws.length cw, vp, .bool b, .slice Ak K.len ck], .agg #[.slice Bw us.length dw, vq, .bool b', .slice Bk L.len dk]] w (SmO ((b == b') && (decide (ws = us) && sameF K L)) w) := by
  have hb2 := bel_two w (NodeC (.slice Aw ws.length cw) vp b (.slice Ak K.len ck)) (NodeC (.slice Bw us.length dw) vq b' (.slice Bk L.len dk))
  have h1 := heap_old (p := NodeC (.slice Bw us.length dw) vq b' (.slice Bk L.len dk)) (heap_new w (NodeC (.slice Aw ws.length cw) vp b (.slice Ak K.len ck)))
  have h2 : ((w.alloc (NodeC (.slice Aw ws.length cw) vp b (.slice Ak K.len ck))).alloc (NodeC (.slice Bw us.length dw) vq b' (.slice Bk L.len dk))).heap[w.heap.size + 1]? = some (NodeC (.slice Bw us.length dw) vq b' (.slice Bk L.len dk)) := by
    have := heap_new (w.alloc (NodeC (.slice Aw ws.length cw) vp b (.slice Ak K.len ck))) (NodeC (.slice Bw us.length dw) vq b' (.slice Bk L.len dk))
    rwa [World.size_alloc] at this
  have n0 := cell_heap (j := 0) h1 rfl
  have n2 := cell_heap (j := 2) h1 rfl
  have n3 := cell_heap (j := 3) h1 rfl
  have m0 := cell_heap (j := 0) h2 rfl
  have m2 := cell_heap (j := 2) h2 rfl
  have m3 := cell_heap (j := 3) h2 rfl
  have HEQ := hide (eq_str ws us _ (hws.below hb2) (hus.below hb2) hl1 hl2)
  have HH1 := hide h1
  have HH2 := hide h2
  have HB2 := hide hb2
  clear h1 h2 hb2 hws hus
  cases hbb : (b == b') with
  | false =>
    have hbv : (b == b') = false := hbb
    go_enter Try.func48, Try.ntmps48
    go_wp2_with fail
    go_ret
    exact ⟨rfl, HB2.out⟩
  | true =>
    have hbv : (b == b') = true := hbb
    clear hbb
    by_cases hwu : ws = us
    · rw [decide_eq_true hwu] at HEQ ⊢
      clear hwu
      go_enter Try.func48, Try.ntmps48
      go_wp2_with fail
      refine HEQ.out.mono ?_
      rintro e x2 ⟨rfl, hb3⟩
      have HB3 := hide (below_wide HB2.out hb3)
      have k3 := cell_heap (j := 3) (heapB hb3 HH1.out) rfl
      have l3 := cell_heap (j := 3) (heapB hb3 HH2.out) rfl
      clear hb3 n0 n2 n3 m0 m2 m3 HEQ
      go_wp2_with fail
      refine (HREC.out _ HB3.out).mono ?_
      rintro e x3 ⟨rfl, hb4⟩
      have HB4 := hide (below_wide HB3.out hb4)
      clear hb4
      go_wp2_with fail
      go_ret
      exact ⟨by simp, HB4.out⟩
    · rw [decide_eq_false hwu] at HEQ ⊢
      clear hwu
      go_enter Try.func48, Try.ntmps48
      go_wp2_with fail
      refine HEQ.out.mono ?_
      rintro e x2 ⟨rfl, hb3⟩
      have HB3 := hide (below_wide HB2.out hb3)
      clear hb3 n0 n2 n3 m0 m2 m3 HEQ
      go_wp2_with fail
      go_ret
      exact ⟨by simp, HB3.out⟩
structure EqL (w wr : World) (F G : Fo) (i : Nat) (R S : Fo) (xs ys : List Value) (D E : Nat → Prop) : Prop where
  bl : Below w.heap.size w wr
  fo : FoV w D R (xs.drop (i * 4))
  go : FoV w E S (ys.drop (i * 4))
  len : i + R.len = F.len
  leg : i + S.len = G.len
  eq : sameF F G = sameF R S
  sz : szF R ≤ szF F ∧ szF S ≤ szF G
  no : R.nodes ≤ F.nodes
set_option maxHeartbeats 4000000 in
set_option maxRecDepth 100000 in
theorem tsame_any : ∀ (n : Nat) (F : Fo), F.nodes = n → ∀ (G : Fo) (A B : Option Addr) (c d : Nat) (xs ys : List Value) (D E : Nat → Prop) (w : World), Src w A F.len c 4 xs → FoV w D F xs → Src w B G.len d 4 ys → FoV w E G ys → (∀ a, A = some a → a.block < w.heap.size) → (∀ a, B = some a → a.block < w.heap.size) → (∀ q, D q → q < w.heap.size) → (∀ q, E q → q < w.heap.size) → szF F ≤ 1099511627776 → szF G ≤ 1099511627776 →
    Calls Try.prog 23 #[.slice A F.len c, .slice B G.len d] w (SmO (sameF F G) w) := by
  intro n
  induction n using Nat.strongRecOn with
  | _ n ih =>
  intro F hn G A B c d xs ys D E w hs hf ht hg hA hB hD hE hz hy
  have HIH := hide ih
  have HS := hide hs
  have HT := hide ht
  have HA := hide hA
  have HB := hide hB
  have HD := hide hD
  have HE := hide hE
  have HZ := hide (And.intro hz hy)
  have HN := hide hn
  have hfl : F.len ≤ 1099511627776 := Nat.le_trans (len_sz F) hz
  have hgl : G.len ≤ 1099511627776 := Nat.le_trans (len_sz G) hy
  have H0 := hide (show EqL w w F G 0 F G xs ys D E from ⟨Below.refl _ _, by simpa using hf, by simpa using hg, by simp, by simp, rfl, ⟨Nat.le_refl _, Nat.le_refl _⟩, Nat.le_refl _⟩)
  clear hs hf ht hg hA hB hD hE hz hy ih hn
  have HQ : Hid (Calls Try.prog 47 #[.slice A F.len c, .slice B G.len d, .func (.func 48) #[] #[]] w (SmO (sameF F G) w)) := by
    refine hide ?_
    by_cases hne : F.len = G.len
    · have n1 : (F.len != G.len) = false := by rw [hne]; simp
      have n1' : ((F.len : Int) != (G.len : Int)) = false := by rw [hne]; simp
      have HNE := hide hne
      clear hne
      go_enter Try.func47, Try.ntmps47
      go_wp2_with fail
      clear n1 n1'
      go_loopw [17] (fun j wr => ∃ (i : Nat) (R S : Fo), j = .int .i64 i ∧ EqL w wr F G i R S xs ys D E) (fun j _ => F.len - (intOf j).toNat)
      case atStart => exact ⟨0, F, G, rfl, H0.out⟩
      case round =>
        clear H0
        obtain ⟨i, R, S, rfl, hX⟩ := hrel
        obtain ⟨wa, rfl⟩ : ∃ x, x = wr := ⟨wr, rfl⟩
        have HX := hide hX
        clear hX
        cases R with
        | nil =>
          have hi : i = F.len := by have := HX.out.len; simpa [Fo.len] using this
          have d1 : decide (i < F.len) = false := decide_eq_false (by omega)
          have d1' : decide ((i : Int) < (F.len : Int)) = false := decide_eq_false (by omega)
          have hS : S = .nil := Fo.len_nil (by have h1 := HX.out.leg; have h2 := HNE.out; omega)
          have HEQ := hide (show sameF F G = true from by rw [HX.out.eq, hS]; rfl)
          clear hi hS
          go_wp2_with fail
          go_ret
          exact ⟨by rw [HEQ.out]; rfl, HX.out.bl⟩
        | cons ws ps b K R =>
          have hlen : i + (R.len + 1) = F.len := HX.out.len
          cases S with
          | nil => exfalso; have h1 := HX.out.leg; have h2 := HNE.out; simp only [Fo.len] at h1; omega
          | cons us qs b' L S =>
            have hleg : i + (S.len + 1) = G.len := HX.out.leg
            have d1 : decide (i < F.len) = true := decide_eq_true (by omega)
            have d1' : decide ((i : Int) < (F.len : Int)) = true := decide_eq_true (by omega)
            have d2 : ((i : Int) < (F.len : Int)) := by omega
            have d3 : ((i : Int) < (G.len : Int)) := by omega
            obtain ⟨vw, vp, Ak, ck, zs, g0, g1, g2, g3, hvw, hvp, hks, hkA, hkF, hRF⟩ := drop_fo HX.out.fo
            obtain ⟨uw, up, Bk, dk, z2, k0, k1, k2, k3, huw, hup, hkt, hkB, hkG, hRG⟩ := drop_fo HX.out.go
            obtain ⟨ab, ao, rfl⟩ := src_spot HS.out (by omega) (by decide)
            obtain ⟨bb, bo, rfl⟩ := src_spot HT.out (by omega) (by decide)
            have hsc := src_cells HS.out
            have htc := src_cells HT.out
            have hadA := HA.out _ rfl
            have hadB := HB.out _ rfl
            obtain ⟨Aw, cw, rfl, hws, hwB⟩ := hvw
            obtain ⟨Bw, dw, rfl, hus, huB⟩ := huw
            have HCA := hide (show ∀ x, Below w.heap.size w x → NS ab (ao + i * 4) (.slice Aw ws.length cw) vp (.bool b) (.slice Ak K.len ck) x from fun x hx =>
              ⟨cell_lo (a := ⟨ab, ao + i * 4, none⟩) hx hadA (hsc _ _ g0), cell_lo (a := ⟨ab, ao + i * 4 + 1, none⟩) hx hadA (by rw [Nat.add_assoc]; exact hsc _ _ g1), cell_lo (a := ⟨ab, ao + i * 4 + 2, none⟩) hx hadA (by rw [Nat.add_assoc]; exact hsc _ _ g2), cell_lo (a := ⟨ab, ao + i * 4 + 3, none⟩) hx hadA (by rw [Nat.add_assoc]; exact hsc _ _ g3)⟩)
            have HCB := hide (show ∀ x, Below w.heap.size w x → NS bb (bo + i * 4) (.slice Bw us.length dw) up (.bool b') (.slice Bk L.len dk) x from fun x hx =>
              ⟨cell_lo (a := ⟨bb, bo + i * 4, none⟩) hx hadB (htc _ _ k0), cell_lo (a := ⟨bb, bo + i * 4 + 1, none⟩) hx hadB (by rw [Nat.add_assoc]; exact htc _ _ k1), cell_lo (a := ⟨bb, bo + i * 4 + 2, none⟩) hx hadB (by rw [Nat.add_assoc]; exact htc _ _ k2), cell_lo (a := ⟨bb, bo + i * 4 + 3, none⟩) hx hadB (by rw [Nat.add_assoc]; exact htc _ _ k3)⟩)
            have hnoF : Fo.nodes (.cons ws ps b K R) = K.nodes + R.nodes + 1 := rfl
            have hszF : szF (.cons ws ps b K R) = ws.length + ps.length + 1 + szF K + szF R := rfl
            have hszG : szF (.cons us qs b' L S) = us.length + qs.length + 1 + szF L + szF S := rfl
            have hz1 := HX.out.sz
            have hz2 := HZ.out
            have hKn : K.nodes < n := by have h1 := HX.out.no; have h2 := HN.out; omega
            have HREC := hide (fun (x : World) (hx : Below w.heap.size w x) => HIH.out K.nodes hKn K rfl L Ak Bk ck dk zs z2 D E x (hks.below hx) (hkF.keep (fun q hq => hx.block q (HD.out q hq))) (hkt.below hx) (hkG.keep (fun q hq => hx.block q (HE.out q hq))) (fun a ha => Nat.lt_of_lt_of_le (HD.out _ (hkA a ha)) hx.size) (fun a ha => Nat.lt_of_lt_of_le (HE.out _ (hkB a ha)) hx.size) (fun q hq => Nat.lt_of_lt_of_le (HD.out q hq) hx.size) (fun q hq => Nat.lt_of_lt_of_le (HE.out q hq) hx.size) (by omega) (by omega))
            have HEW := hide (show ∀ w2, Below w.heap.size w w2 → sameF R S = sameF F G → EqL w w2 F G (i + 1) R S xs ys D E from fun w2 h2 he => ⟨h2, hRF, hRG, by omega, by omega, he.symm, ⟨by omega, by omega⟩, by have := HX.out.no; omega⟩)
            have HEQ := hide (show sameF F G = (((b == b') && (decide (ws = us) && sameF K L)) && sameF R S) from HX.out.eq)
            have hc1 := HCA.out _ HX.out.bl
            have c0 := hc1.c0
            have c1 := hc1.c1
            have c2 := hc1.c2
            have c3 := hc1.c3
            have hbn := below_lo HX.out.bl (bel_one wa (NodeC (.slice Aw ws.length cw) vp b (.slice Ak K.len ck))) HX.out.bl.size
            have hc2 := HCB.out _ hbn
            have e0 := hc2.c0
            have e1 := hc2.c1
            have e2 := hc2.c2
            have e3 := hc2.c3
            have hb2 := bel_two wa (NodeC (.slice Aw ws.length cw) vp b (.slice Ak K.len ck)) (NodeC (.slice Bw us.length dw) up b' (.slice Bk L.len dk))
            have h1 := heap_old (p := NodeC (.slice Bw us.length dw) up b' (.slice Bk L.len dk)) (heap_new wa (NodeC (.slice Aw ws.length cw) vp b (.slice Ak K.len ck)))
            have h2 : ((wa.alloc (NodeC (.slice Aw ws.length cw) vp b (.slice Ak K.len ck))).alloc (NodeC (.slice Bw us.length dw) up b' (.slice Bk L.len dk))).heap[wa.heap.size + 1]? = some (NodeC (.slice Bw us.length dw) up b' (.slice Bk L.len dk)) := by
              have := heap_new (wa.alloc (NodeC (.slice Aw ws.length cw) vp b (.slice Ak K.len ck))) (NodeC (.slice Bw us.length dw) up b' (.slice Bk L.len dk))
              rwa [World.size_alloc] at this
            have n0 := cell_heap (j := 0) h1 rfl
            have n1 := cell_heap (j := 1) h1 rfl
            have n2 := cell_heap (j := 2) h1 rfl
            have n3 := cell_heap (j := 3) h1 rfl
            have m0 := cell_heap (j := 0) h2 rfl
            have m1 := cell_heap (j := 1) h2 rfl
            have m2 := cell_heap (j := 2) h2 rfl
            have m3 := cell_heap (j := 3) h2 rfl
            have hbx := below_lo HX.out.bl hb2 HX.out.bl.size
            have HC := hide (same1_walk ws us K L Aw Bw Ak Bk cw dw ck dk vp up b b' _ (hws.below hbx) (hus.below hbx) (by omega) (by omega) (hide (fun x hx => HREC.out x (below_lo hbx hx hbx.size))))
            have HBX := hide hbx
            have HLL := hide hlen
            obtain ⟨Ap, cp, rfl, -, -⟩ := hvp
            obtain ⟨Bp, dp, rfl, -, -⟩ := hup
            clear hsc htc g0 g1 g2 g3 k0 k1 k2 k3 hks hkA hkF hRF hkt hkB hkG hRG hws hwB hus huB hadA hadB hnoF hszF hszG hz1 hz2 hKn hc1 hc2 hbn hb2 h1 h2 hbx hlen hleg
            generalize hvv : ((b == b') && (decide (ws = us) && sameF K L)) = vv at *
            cases vv with
            | true =>
              clear hvv
              go_wp2_with fail
              refine HC.out.mono ?_
              rintro e w2 ⟨rfl, hb2⟩
              have HEL := hide (HEW.out w2 (below_lo HBX.out hb2 HBX.out.size) (by rw [HEQ.out]; simp))
              clear hb2 n0 n1 n2 n3 m0 m1 m2 m3 c0 c1 c2 c3 e0 e1 e2 e3
              go_wp2_with fail
              go_roundw
              case rel => exact ⟨i + 1, R, S, by go_num, HEL.out⟩
              case measure => have := HLL.out; simp [intOf]; omega
            | false =>
              clear hvv
              go_wp2_with fail
              refine HC.out.mono ?_
              rintro e w2 ⟨rfl, hb2⟩
              have HB3 := hide (below_lo HBX.out hb2 HBX.out.size)
              clear hb2 n0 n1 n2 n3 m0 m1 m2 m3 c0 c1 c2 c3 e0 e1 e2 e3
              go_wp2_with fail
              (try simp only [Exit.inBlock, Exit.then])
              go_ret
              exact ⟨by rw [HEQ.out]; rfl, HB3.out⟩
    · have n1 : (F.len != G.len) = true := bne_iff_ne.2 hne
      have n1' : ((F.len : Int) != (G.len : Int)) = true := bne_iff_ne.2 (by omega)
      have HNE := hide (sameF_len hne)
      clear hne H0
      go_enter Try.func47, Try.ntmps47
      go_wp2_with fail
      go_ret
      exact ⟨by rw [HNE.out]; rfl, Below.refl _ _⟩
  clear H0 HIH HS HT
  go_enter Try.func23, Try.ntmps23
  go_wp2_with fail
  refine HQ.out.mono ?_
  rintro e w2 ⟨rfl, hb2⟩
  have HB2 := hide hb2
  clear hb2 HQ
  go_wp2_with fail
  go_ret
  exact ⟨rfl, HB2.out⟩
end Go.Proofs.Ytihmmmodimionaa.Tr
/- Words held against words (twice the same code), the document's Same, its blanks: walked in general (printed by gen_yk.py). -/
namespace Go.Proofs.Ytihmmmodimionaa.Tr
open Go.RowKit Go.Proofs.Ytihmmmodimionaa Go.Proofs.Ytihmmmodimionaa.Lx

theorem take_eq {us vs : List ByteArray} (hl : us.length = vs.length) {i : Nat} (hi : i < us.length) (h : us.take i = vs.take i) (he : us[i]? = vs[i]?) : us.take (i + 1) = vs.take (i + 1) := by
  rw [List.take_add_one, List.take_add_one, h, he]
theorem str_ne {a b : ByteArray} (h : a ≠ b) : (a.toList == b.toList) = false := by
  rw [beq_eq_false_iff_ne]
  intro e
  rw [ByteArray.toList_eq, ByteArray.toList_eq] at e
  exact h (ByteArray.ext (Array.toList_inj.1 e))
set_option maxHeartbeats 2000000 in
set_option maxRecDepth 100000 in
theorem rsame_any (us vs : List ByteArray) (A B : Option Addr) (c d : Nat) (w : World) (hu : Src w A us.length c 1 (us.map Value.string)) (hv : Src w B vs.length d 1 (vs.map Value.string)) (hl : us.length ≤ 1099511627776) (hl2 : vs.length ≤ 1099511627776) :
    Calls Try.prog 51 #[.slice A us.length c, .slice B vs.length d] w (SmO (decide (us = vs)) w) := by
  have HU := hide hu
  have HV := hide hv
  clear hu hv
  by_cases hne : us.length = vs.length
  · have n1 : (us.length != vs.length) = false := by rw [hne]; simp
    have n1' : ((us.length : Int) != (vs.length : Int)) = false := by rw [hne]; simp
    have HNE := hide hne
    clear hne
    go_enter Try.func51, Try.ntmps51
    go_wp2_with fail
    clear n1 n1'
    go_loopw [5] (fun j wr => ∃ i : Nat, j = .int .i64 i ∧ i ≤ us.length ∧ Below w.heap.size w wr ∧ us.take i = vs.take i) (fun j _ => us.length - (intOf j).toNat)
    case atStart => exact ⟨0, rfl, Nat.zero_le _, Below.refl _ _, rfl⟩
    case round =>
      obtain ⟨i, rfl, hi, hb, ht⟩ := hrel
      have HB := hide hb
      have HT := hide ht
      clear ht
      rcases Nat.lt_or_ge i us.length with hlt | hge
      · have hlt2 : i < vs.length := by rw [← HNE.out]; exact hlt
        obtain ⟨ub, uo, rfl⟩ := src_spot HU.out (by omega) (Nat.le_refl _)
        obtain ⟨vb, vo, rfl⟩ := src_spot HV.out (by omega) (Nat.le_refl _)
        obtain ⟨x, hx⟩ : ∃ x, us[i]? = some x := ⟨us[i], List.getElem?_eq_getElem hlt⟩
        obtain ⟨y, hy⟩ : ∃ y, vs[i]? = some y := ⟨vs[i], List.getElem?_eq_getElem hlt2⟩
        have c0 := lat_cell (src_cells (HU.out.below hb) i (.string x) (by rw [List.getElem?_map, hx]; rfl))
        have c1 := lat_cell (src_cells (HV.out.below hb) i (.string y) (by rw [List.getElem?_map, hy]; rfl))
        have d1 : decide (i < us.length) = true := decide_eq_true hlt
        have d1' : decide ((i : Int) < (us.length : Int)) = true := decide_eq_true (by omega)
        have d2 : ((i : Int) < (us.length : Int)) := by omega
        have d3 : ((i : Int) < (vs.length : Int)) := by omega
        have HLT := hide hlt
        clear hb
        by_cases he : x = y
        · have HTN := hide (take_eq HNE.out hlt HT.out (by rw [hx, hy, he]))
          subst he
          clear hx hy
          go_wp2_with fail
          refine wp_region_lat (by kernel_rfl) (by kernel_rfl) ?_
          repeat (first | go_big_quiet_step ((fail)) | quiet_step ((fail)))
          refine wpQuiet_nil ?_
          intro _ hlat
          obtain ⟨wq, rfl⟩ := hlat
          have HBL := hide (below_wide HB.out (lat_below wr wq))
          go_wp2_with fail
          go_roundw
          case rel => exact ⟨i + 1, by go_num, HLT.out, HBL.out, HTN.out⟩
          case measure => have := HLT.out; simp [intOf]; omega
        · have HNQ := hide (show ¬ us = vs from fun e => he (by subst e; rw [hx] at hy; injection hy))
          have hq := str_ne he
          clear he hx hy
          go_wp2_with fail
          refine wp_region_lat (by kernel_rfl) (by kernel_rfl) ?_
          repeat (first | go_big_quiet_step ((fail)) | quiet_step ((fail)))
          refine wpQuiet_nil ?_
          intro _ hlat
          obtain ⟨wq, rfl⟩ := hlat
          have HBL := hide (below_wide HB.out (lat_below wr wq))
          go_wp2_with fail
          (try simp only [Exit.inBlock, Exit.then])
          go_ret
          exact ⟨by rw [decide_eq_false HNQ.out]; rfl, HBL.out⟩
      · have d1 : decide (i < us.length) = false := decide_eq_false (by omega)
        have d1' : decide ((i : Int) < (us.length : Int)) = false := decide_eq_false (by omega)
        have HEQ := hide (show us = vs from by
          have h1 := HT.out
          have h2 := HNE.out
          rwa [List.take_of_length_le hge, List.take_of_length_le (by omega)] at h1)
        clear hb hi hge
        go_wp2_with fail
        go_ret
        exact ⟨by rw [decide_eq_true HEQ.out]; rfl, HB.out⟩
  · have n1 : (us.length != vs.length) = true := bne_iff_ne.2 hne
    have n1' : ((us.length : Int) != (vs.length : Int)) = true := bne_iff_ne.2 (by omega)
    have HNQ := hide (show ¬ us = vs from fun e => hne (by rw [e]))
    clear hne
    go_enter Try.func51, Try.ntmps51
    go_wp2_with fail
    go_ret
    exact ⟨by rw [decide_eq_false HNQ.out]; rfl, Below.refl _ _⟩
set_option maxHeartbeats 2000000 in
set_option maxRecDepth 100000 in
theorem lsame_any (us vs : List ByteArray) (A B : Option Addr) (c d : Nat) (w : World) (hu : Src w A us.length c 1 (us.map Value.string)) (hv : Src w B vs.length d 1 (vs.map Value.string)) (hl : us.length ≤ 1099511627776) (hl2 : vs.length ≤ 1099511627776) :
    Calls Try.prog 27 #[.slice A us.length c, .slice B vs.length d] w (SmO (decide (us = vs)) w) := by
  have HU := hide hu
  have HV := hide hv
  clear hu hv
  by_cases hne : us.length = vs.length
  · have n1 : (us.length != vs.length) = false := by rw [hne]; simp
    have n1' : ((us.length : Int) != (vs.length : Int)) = false := by rw [hne]; simp
    have HNE := hide hne
    clear hne
    go_enter Try.func27, Try.ntmps27
    go_wp2_with fail
    clear n1 n1'
    go_loopw [5] (fun j wr => ∃ i : Nat, j = .int .i64 i ∧ i ≤ us.length ∧ Below w.heap.size w wr ∧ us.take i = vs.take i) (fun j _ => us.length - (intOf j).toNat)
    case atStart => exact ⟨0, rfl, Nat.zero_le _, Below.refl _ _, rfl⟩
    case round =>
      obtain ⟨i, rfl, hi, hb, ht⟩ := hrel
      have HB := hide hb
      have HT := hide ht
      clear ht
      rcases Nat.lt_or_ge i us.length with hlt | hge
      · have hlt2 : i < vs.length := by rw [← HNE.out]; exact hlt
        obtain ⟨ub, uo, rfl⟩ := src_spot HU.out (by omega) (Nat.le_refl _)
        obtain ⟨vb, vo, rfl⟩ := src_spot HV.out (by omega) (Nat.le_refl _)
        obtain ⟨x, hx⟩ : ∃ x, us[i]? = some x := ⟨us[i], List.getElem?_eq_getElem hlt⟩
        obtain ⟨y, hy⟩ : ∃ y, vs[i]? = some y := ⟨vs[i], List.getElem?_eq_getElem hlt2⟩
        have c0 := lat_cell (src_cells (HU.out.below hb) i (.string x) (by rw [List.getElem?_map, hx]; rfl))
        have c1 := lat_cell (src_cells (HV.out.below hb) i (.string y) (by rw [List.getElem?_map, hy]; rfl))
        have d1 : decide (i < us.length) = true := decide_eq_true hlt
        have d1' : decide ((i : Int) < (us.length : Int)) = true := decide_eq_true (by omega)
        have d2 : ((i : Int) < (us.length : Int)) := by omega
        have d3 : ((i : Int) < (vs.length : Int)) := by omega
        have HLT := hide hlt
        clear hb
        by_cases he : x = y
        · have HTN := hide (take_eq HNE.out hlt HT.out (by rw [hx, hy, he]))
          subst he
          clear hx hy
          go_wp2_with fail
          refine wp_region_lat (by kernel_rfl) (by kernel_rfl) ?_
          repeat (first | go_big_quiet_step ((fail)) | quiet_step ((fail)))
          refine wpQuiet_nil ?_
          intro _ hlat
          obtain ⟨wq, rfl⟩ := hlat
          have HBL := hide (below_wide HB.out (lat_below wr wq))
          go_wp2_with fail
          go_roundw
          case rel => exact ⟨i + 1, by go_num, HLT.out, HBL.out, HTN.out⟩
          case measure => have := HLT.out; simp [intOf]; omega
        · have HNQ := hide (show ¬ us = vs from fun e => he (by subst e; rw [hx] at hy; injection hy))
          have hq := str_ne he
          clear he hx hy
          go_wp2_with fail
          refine wp_region_lat (by kernel_rfl) (by kernel_rfl) ?_
          repeat (first | go_big_quiet_step ((fail)) | quiet_step ((fail)))
          refine wpQuiet_nil ?_
          intro _ hlat
          obtain ⟨wq, rfl⟩ := hlat
          have HBL := hide (below_wide HB.out (lat_below wr wq))
          go_wp2_with fail
          (try simp only [Exit.inBlock, Exit.then])
          go_ret
          exact ⟨by rw [decide_eq_false HNQ.out]; rfl, HBL.out⟩
      · have d1 : decide (i < us.length) = false := decide_eq_false (by omega)
        have d1' : decide ((i : Int) < (us.length : Int)) = false := decide_eq_false (by omega)
        have HEQ := hide (show us = vs from by
          have h1 := HT.out
          have h2 := HNE.out
          rwa [List.take_of_length_le hge, List.take_of_length_le (by omega)] at h1)
        clear hb hi hge
        go_wp2_with fail
        go_ret
        exact ⟨by rw [decide_eq_true HEQ.out]; rfl, HB.out⟩
  · have n1 : (us.length != vs.length) = true := bne_iff_ne.2 hne
    have n1' : ((us.length : Int) != (vs.length : Int)) = true := bne_iff_ne.2 (by omega)
    have HNQ := hide (show ¬ us = vs from fun e => hne (by rw [e]))
    clear hne
    go_enter Try.func27, Try.ntmps27
    go_wp2_with fail
    go_ret
    exact ⟨by rw [decide_eq_false HNQ.out]; rfl, Below.refl _ _⟩
end Go.Proofs.Ytihmmmodimionaa.Tr
/- The document's Same on rows, walked in general. -/
namespace Go.Proofs.Ytihmmmodimionaa.Tr
open Go.RowKit Go.Proofs.Ytihmmmodimionaa Go.Proofs.Ytihmmmodimionaa.Lx

def coreR (r : RowD) : Nat × Bool × List ByteArray := (r.deep, r.op, r.ws)
def sameR (rs qs : List RowD) : Bool := decide (rs.map coreR = qs.map coreR)
theorem core_take {rs qs : List RowD} {i : Nat} {r q : RowD} (hr : rs[i]? = some r) (hq : qs[i]? = some q) (h : (rs.map coreR).take i = (qs.map coreR).take i) (he : coreR r = coreR q) : (rs.map coreR).take (i + 1) = (qs.map coreR).take (i + 1) := by
  rw [List.take_add_one, List.take_add_one, h, List.getElem?_map, List.getElem?_map, hr, hq, Option.map_some, Option.map_some, he]
theorem core_ne {rs qs : List RowD} {i : Nat} {r q : RowD} (hr : rs[i]? = some r) (hq : qs[i]? = some q) (he : coreR r ≠ coreR q) : sameR rs qs = false := by
  unfold sameR
  rw [decide_eq_false_iff_not]
  intro h
  have h1 := congrArg (fun l => l[i]?) h
  simp only [List.getElem?_map, hr, hq, Option.map_some, Option.some.injEq] at h1
  exact he h1
set_option maxHeartbeats 4000000 in
set_option maxRecDepth 100000 in
theorem rSame_any (rs qs : List RowD) (A B : Option Addr) (c d : Nat) (xs ys : List Value) (D E : Nat → Prop) (w : World) (hx : Src w A rs.length c 4 xs) (hxv : RwV w D rs xs) (hy : Src w B qs.length d 4 ys) (hyv : RwV w E qs ys) (hl : rs.length ≤ 1099511627776) (hl2 : qs.length ≤ 1099511627776) (hw : ∀ r ∈ rs, r.ws.length ≤ 1099511627776) (hw2 : ∀ r ∈ qs, r.ws.length ≤ 1099511627776) :
    Calls Try.prog 26 #[.slice A rs.length c, .slice B qs.length d] w (SmO (sameR rs qs) w) := by
  have HX := hide hx
  have HY := hide hy
  have HXV := hide hxv
  have HYV := hide hyv
  have HW := hide hw
  have HW2 := hide hw2
  clear hx hy hxv hyv hw hw2
  by_cases hne : rs.length = qs.length
  · have n1 : (rs.length != qs.length) = false := by rw [hne]; simp
    have n1' : ((rs.length : Int) != (qs.length : Int)) = false := by rw [hne]; simp
    have HNE := hide hne
    clear hne
    go_enter Try.func26, Try.ntmps26
    go_wp2_with fail
    clear n1 n1'
    go_loopw [5] (fun j wr => ∃ i : Nat, j = .int .i64 i ∧ i ≤ rs.length ∧ Below w.heap.size w wr ∧ (rs.map coreR).take i = (qs.map coreR).take i) (fun j _ => rs.length - (intOf j).toNat)
    case atStart => exact ⟨0, rfl, Nat.zero_le _, Below.refl _ _, rfl⟩
    case round =>
      obtain ⟨i, rfl, hi, hb, ht⟩ := hrel
      have HB := hide hb
      have HT := hide ht
      clear ht
      rcases Nat.lt_or_ge i rs.length with hlt | hge
      · have hlt2 : i < qs.length := by rw [← HNE.out]; exact hlt
        obtain ⟨b1, o1, rfl⟩ := src_spot HX.out (by omega) (by decide)
        obtain ⟨b2, o2, rfl⟩ := src_spot HY.out (by omega) (by decide)
        obtain ⟨r, hr⟩ : ∃ r, rs[i]? = some r := ⟨rs[i], List.getElem?_eq_getElem hlt⟩
        obtain ⟨q, hq⟩ : ∃ q, qs[i]? = some q := ⟨qs[i], List.getElem?_eq_getElem hlt2⟩
        obtain ⟨vw, vp, g0, g1, g2, g3, hvw, hvp⟩ := HXV.out.at hr
        obtain ⟨uw, up, k0, k1, k2, k3, huw, hup⟩ := HYV.out.at hq
        obtain ⟨Aw, cw, rfl, hws, hwB⟩ := hvw
        obtain ⟨Bw, dw, rfl, hus, huB⟩ := huw
        have sx := src_cells (HX.out.below hb)
        have sy := src_cells (HY.out.below hb)
        have x0 := lat_cell (sx _ _ g0)
        have x1 := lat_cell (sx _ _ g1)
        have x3 := lat_cell (sx _ _ g3)
        have y0 := lat_cell (sy _ _ k0)
        have y1 := lat_cell (sy _ _ k1)
        have y3 := lat_cell (sy _ _ k3)
        rw [← Nat.add_assoc] at x1 x3 y1 y3
        have d1 : decide (i < rs.length) = true := decide_eq_true hlt
        have d1' : decide ((i : Int) < (rs.length : Int)) = true := decide_eq_true (by omega)
        have d2 : ((i : Int) < (rs.length : Int)) := by omega
        have d3 : ((i : Int) < (qs.length : Int)) := by omega
        have HSM := hide (fun y => rsame_any r.ws q.ws Aw Bw cw dw (lat wr y) ((hws.below hb).below (lat_below _ y)) ((hus.below hb).below (lat_below _ y)) (HW.out r (List.mem_of_getElem? hr)) (HW2.out q (List.mem_of_getElem? hq)))
        have HLT := hide hlt
        have HTN := hide (fun he => core_take hr hq HT.out he)
        have HNN := hide (fun he => core_ne hr hq he)
        clear hb sx sy g0 g1 g2 g3 k0 k1 k2 k3 hvp hup hws hwB hus huB hr hq hlt2 HT
        by_cases hd : r.deep = q.deep
        · have e1 : (r.deep != q.deep) = false := by rw [hd]; simp
          have e1' : ((r.deep : Int) != (q.deep : Int)) = false := by rw [hd]; simp
          by_cases hws : r.ws = q.ws
          · rw [decide_eq_true hws] at HSM
            cases hro : r.op
            · cases hqo : q.op
              · rw [hro] at x3
                rw [hqo] at y3
                have HTT := hide (HTN.out (by unfold coreR; rw [hd, hro, hqo, hws]))
                clear hd hws hro hqo HTN HNN
                go_wp2_with fail
                refine wp_region_lat (by kernel_rfl) (by kernel_rfl) ?_
                repeat (first | go_big_quiet_step ((exact calls_lat (HSM.out _))) | quiet_step ((exact calls_lat (HSM.out _))))
                refine wpQuiet_nil ?_
                intro _ hlat
                obtain ⟨wq, rfl⟩ := hlat
                have HBL := hide (below_wide HB.out (lat_below wr wq))
                go_wp2_with fail
                go_roundw
                case rel => exact ⟨i + 1, by go_num, HLT.out, HBL.out, HTT.out⟩
                case measure => have := HLT.out; simp [intOf]; omega
              · rw [hro] at x3
                rw [hqo] at y3
                have HTT := hide (HNN.out (fun h => by have := congrArg (fun p => p.2.1) h; simp only [coreR, hro, hqo] at this; cases this))
                clear hd hws hro hqo HTN HNN
                go_wp2_with fail
                refine wp_region_lat (by kernel_rfl) (by kernel_rfl) ?_
                repeat (first | go_big_quiet_step ((exact calls_lat (HSM.out _))) | quiet_step ((exact calls_lat (HSM.out _))))
                refine wpQuiet_nil ?_
                intro _ hlat
                obtain ⟨wq, rfl⟩ := hlat
                have HBL := hide (below_wide HB.out (lat_below wr wq))
                go_wp2_with fail
                (try simp only [Exit.inBlock, Exit.then])
                go_ret
                exact ⟨by rw [HTT.out]; rfl, HBL.out⟩
            · cases hqo : q.op
              · rw [hro] at x3
                rw [hqo] at y3
                have HTT := hide (HNN.out (fun h => by have := congrArg (fun p => p.2.1) h; simp only [coreR, hro, hqo] at this; cases this))
                clear hd hws hro hqo HTN HNN
                go_wp2_with fail
                refine wp_region_lat (by kernel_rfl) (by kernel_rfl) ?_
                repeat (first | go_big_quiet_step ((exact calls_lat (HSM.out _))) | quiet_step ((exact calls_lat (HSM.out _))))
                refine wpQuiet_nil ?_
                intro _ hlat
                obtain ⟨wq, rfl⟩ := hlat
                have HBL := hide (below_wide HB.out (lat_below wr wq))
                go_wp2_with fail
                (try simp only [Exit.inBlock, Exit.then])
                go_ret
                exact ⟨by rw [HTT.out]; rfl, HBL.out⟩
              · rw [hro] at x3
                rw [hqo] at y3
                have HTT := hide (HTN.out (by unfold coreR; rw [hd, hro, hqo, hws]))
                clear hd hws hro hqo HTN HNN
                go_wp2_with fail
                refine wp_region_lat (by kernel_rfl) (by kernel_rfl) ?_
                repeat (first | go_big_quiet_step ((exact calls_lat (HSM.out _))) | quiet_step ((exact calls_lat (HSM.out _))))
                refine wpQuiet_nil ?_
                intro _ hlat
                obtain ⟨wq, rfl⟩ := hlat
                have HBL := hide (below_wide HB.out (lat_below wr wq))
                go_wp2_with fail
                go_roundw
                case rel => exact ⟨i + 1, by go_num, HLT.out, HBL.out, HTT.out⟩
                case measure => have := HLT.out; simp [intOf]; omega
          · rw [decide_eq_false hws] at HSM
            cases hro : r.op
            · cases hqo : q.op
              · rw [hro] at x3
                rw [hqo] at y3
                have HTT := hide (HNN.out (fun h => hws (congrArg (fun p => p.2.2) h)))
                clear hd hws hro hqo HTN HNN
                go_wp2_with fail
                refine wp_region_lat (by kernel_rfl) (by kernel_rfl) ?_
                repeat (first | go_big_quiet_step ((exact calls_lat (HSM.out _))) | quiet_step ((exact calls_lat (HSM.out _))))
                refine wpQuiet_nil ?_
                intro _ hlat
                obtain ⟨wq, rfl⟩ := hlat
                have HBL := hide (below_wide HB.out (lat_below wr wq))
                go_wp2_with fail
                (try simp only [Exit.inBlock, Exit.then])
                go_ret
                exact ⟨by rw [HTT.out]; rfl, HBL.out⟩
              · rw [hro] at x3
                rw [hqo] at y3
                have HTT := hide (HNN.out (fun h => hws (congrArg (fun p => p.2.2) h)))
                clear hd hws hro hqo HTN HNN
                go_wp2_with fail
                refine wp_region_lat (by kernel_rfl) (by kernel_rfl) ?_
                repeat (first | go_big_quiet_step ((exact calls_lat (HSM.out _))) | quiet_step ((exact calls_lat (HSM.out _))))
                refine wpQuiet_nil ?_
                intro _ hlat
                obtain ⟨wq, rfl⟩ := hlat
                have HBL := hide (below_wide HB.out (lat_below wr wq))
                go_wp2_with fail
                (try simp only [Exit.inBlock, Exit.then])
                go_ret
                exact ⟨by rw [HTT.out]; rfl, HBL.out⟩
            · cases hqo : q.op
              · rw [hro] at x3
                rw [hqo] at y3
                have HTT := hide (HNN.out (fun h => hws (congrArg (fun p => p.2.2) h)))
                clear hd hws hro hqo HTN HNN
                go_wp2_with fail
                refine wp_region_lat (by kernel_rfl) (by kernel_rfl) ?_
                repeat (first | go_big_quiet_step ((exact calls_lat (HSM.out _))) | quiet_step ((exact calls_lat (HSM.out _))))
                refine wpQuiet_nil ?_
                intro _ hlat
                obtain ⟨wq, rfl⟩ := hlat
                have HBL := hide (below_wide HB.out (lat_below wr wq))
                go_wp2_with fail
                (try simp only [Exit.inBlock, Exit.then])
                go_ret
                exact ⟨by rw [HTT.out]; rfl, HBL.out⟩
              · rw [hro] at x3
                rw [hqo] at y3
                have HTT := hide (HNN.out (fun h => hws (congrArg (fun p => p.2.2) h)))
                clear hd hws hro hqo HTN HNN
                go_wp2_with fail
                refine wp_region_lat (by kernel_rfl) (by kernel_rfl) ?_
                repeat (first | go_big_quiet_step ((exact calls_lat (HSM.out _))) | quiet_step ((exact calls_lat (HSM.out _))))
                refine wpQuiet_nil ?_
                intro _ hlat
                obtain ⟨wq, rfl⟩ := hlat
                have HBL := hide (below_wide HB.out (lat_below wr wq))
                go_wp2_with fail
                (try simp only [Exit.inBlock, Exit.then])
                go_ret
                exact ⟨by rw [HTT.out]; rfl, HBL.out⟩
        · have e1 : (r.deep != q.deep) = true := bne_iff_ne.2 hd
          have e1' : ((r.deep : Int) != (q.deep : Int)) = true := bne_iff_ne.2 (by omega)
          have hws := hd
          cases hro : r.op
          · cases hqo : q.op
            · rw [hro] at x3
              rw [hqo] at y3
              have HTT := hide (HNN.out (fun h => hd (congrArg (fun p => p.1) h)))
              clear hd hws hro hqo HTN HNN
              go_wp2_with fail
              refine wp_region_lat (by kernel_rfl) (by kernel_rfl) ?_
              repeat (first | go_big_quiet_step ((exact calls_lat (HSM.out _))) | quiet_step ((exact calls_lat (HSM.out _))))
              refine wpQuiet_nil ?_
              intro _ hlat
              obtain ⟨wq, rfl⟩ := hlat
              have HBL := hide (below_wide HB.out (lat_below wr wq))
              go_wp2_with fail
              (try simp only [Exit.inBlock, Exit.then])
              go_ret
              exact ⟨by rw [HTT.out]; rfl, HBL.out⟩
            · rw [hro] at x3
              rw [hqo] at y3
              have HTT := hide (HNN.out (fun h => hd (congrArg (fun p => p.1) h)))
              clear hd hws hro hqo HTN HNN
              go_wp2_with fail
              refine wp_region_lat (by kernel_rfl) (by kernel_rfl) ?_
              repeat (first | go_big_quiet_step ((exact calls_lat (HSM.out _))) | quiet_step ((exact calls_lat (HSM.out _))))
              refine wpQuiet_nil ?_
              intro _ hlat
              obtain ⟨wq, rfl⟩ := hlat
              have HBL := hide (below_wide HB.out (lat_below wr wq))
              go_wp2_with fail
              (try simp only [Exit.inBlock, Exit.then])
              go_ret
              exact ⟨by rw [HTT.out]; rfl, HBL.out⟩
          · cases hqo : q.op
            · rw [hro] at x3
              rw [hqo] at y3
              have HTT := hide (HNN.out (fun h => hd (congrArg (fun p => p.1) h)))
              clear hd hws hro hqo HTN HNN
              go_wp2_with fail
              refine wp_region_lat (by kernel_rfl) (by kernel_rfl) ?_
              repeat (first | go_big_quiet_step ((exact calls_lat (HSM.out _))) | quiet_step ((exact calls_lat (HSM.out _))))
              refine wpQuiet_nil ?_
              intro _ hlat
              obtain ⟨wq, rfl⟩ := hlat
              have HBL := hide (below_wide HB.out (lat_below wr wq))
              go_wp2_with fail
              (try simp only [Exit.inBlock, Exit.then])
              go_ret
              exact ⟨by rw [HTT.out]; rfl, HBL.out⟩
            · rw [hro] at x3
              rw [hqo] at y3
              have HTT := hide (HNN.out (fun h => hd (congrArg (fun p => p.1) h)))
              clear hd hws hro hqo HTN HNN
              go_wp2_with fail
              refine wp_region_lat (by kernel_rfl) (by kernel_rfl) ?_
              repeat (first | go_big_quiet_step ((exact calls_lat (HSM.out _))) | quiet_step ((exact calls_lat (HSM.out _))))
              refine wpQuiet_nil ?_
              intro _ hlat
              obtain ⟨wq, rfl⟩ := hlat
              have HBL := hide (below_wide HB.out (lat_below wr wq))
              go_wp2_with fail
              (try simp only [Exit.inBlock, Exit.then])
              go_ret
              exact ⟨by rw [HTT.out]; rfl, HBL.out⟩
      · have d1 : decide (i < rs.length) = false := decide_eq_false (by omega)
        have d1' : decide ((i : Int) < (rs.length : Int)) = false := decide_eq_false (by omega)
        have HEQ := hide (show sameR rs qs = true from by
          have h1 := HT.out
          have h2 := HNE.out
          rw [List.take_of_length_le (by simpa using hge), List.take_of_length_le (by rw [List.length_map]; omega)] at h1
          exact decide_eq_true h1)
        clear hb hi hge
        go_wp2_with fail
        go_ret
        exact ⟨by rw [HEQ.out]; rfl, HB.out⟩
  · have n1 : (rs.length != qs.length) = true := bne_iff_ne.2 hne
    have n1' : ((rs.length : Int) != (qs.length : Int)) = true := bne_iff_ne.2 (by omega)
    have HNQ := hide (show sameR rs qs = false from decide_eq_false (fun e => hne (by have := congrArg List.length e; simpa using this)))
    clear hne
    go_enter Try.func26, Try.ntmps26
    go_wp2_with fail
    go_ret
    exact ⟨by rw [HNQ.out]; rfl, Below.refl _ _⟩
end Go.Proofs.Ytihmmmodimionaa.Tr
/- How great a forest of good rows is; small facts on texts. -/
namespace Go.Proofs.Ytihmmmodimionaa.Tr
open Go.RowKit Go.Proofs.Ytihmmmodimionaa Go.Proofs.Ytihmmmodimionaa.Lx

theorem anyIdx_not {S : List UInt8} : ∀ {w : List UInt8}, ¬ (0 ≤ Lib.indexAny w S) → ∀ x ∈ w, x ∉ S
  | [], _, x, h => by cases h
  | b :: l, hi, x, h => by
    unfold Lib.indexAny at hi
    have hge := Lib.indexAny_ge S l
    split at hi
    · exact absurd (Int.le_refl _) hi
    · rename_i hc
      have h2 : ¬ 0 ≤ Lib.indexAny l S := by
        intro h3
        apply hi
        rw [if_neg (by simp; omega)]
        omega
      rcases List.mem_cons.1 h with rfl | h
      · intro hm
        exact hc (by simpa using hm)
      · exact anyIdx_not h2 x h
theorem idx_cons {x : UInt8} {xs p : List UInt8} (h : ¬ (0 ≤ Lib.index (x :: xs) p)) : p.isPrefixOf (x :: xs) = false ∧ ¬ (0 ≤ Lib.index xs p) := by
  have hge := Lib.index_ge xs p
  unfold Lib.index at h
  split at h
  · exact absurd (Int.le_refl _) h
  · rename_i hp
    refine ⟨by cases hh : p.isPrefixOf (x :: xs) with | false => rfl | true => exact absurd hh hp, fun h2 => h ?_⟩
    rw [if_neg (by simp; omega)]
    omega
theorem printV_some (t : List UInt8) : printV (some t) = .tuple #[.string ⟨t.toArray⟩, .int .i64 0] := rfl
theorem printV_none : printV none = .tuple #[.string ⟨#[]⟩, .int .i64 1] := rfl
theorem T_mk (t : List UInt8) : T ⟨t.toArray⟩ = t := by simp [T]
theorem size_mk (t : List UInt8) : (⟨t.toArray⟩ : ByteArray).size = t.length := by simp [ByteArray.size]
theorem nodes_rows : ∀ (F : Fo) (d : Nat), (rowsF d F).length = F.nodes
  | .nil, _ => rfl
  | .cons ws ps b K R, d => by
    rw [rowsF, List.length_cons, List.length_append, nodes_rows K, nodes_rows R]
    rfl
theorem T_cat (a b : ByteArray) : T (a ++ b) = T a ++ T b := by
  obtain ⟨a⟩ := a
  obtain ⟨b⟩ := b
  unfold T
  simp
theorem size_cat (a b : ByteArray) : (a ++ b).size = a.size + b.size := by
  rw [← T_len, T_cat, List.length_append, T_len, T_len]
/-! ### rows tell how great a forest is -/
def rsz : List RowD → Nat
  | [] => 0
  | r :: rs => r.ws.length + r.ps.length + 1 + rsz rs
def rwt : List RowD → Nat
  | [] => 0
  | r :: rs => wsW r.ws + 300 + rwt rs
theorem rsz_app : ∀ a b : List RowD, rsz (a ++ b) = rsz a + rsz b
  | [], b => by simp [rsz]
  | x :: xs, b => by rw [List.cons_append, rsz, rsz, rsz_app xs]; omega
theorem rwt_app : ∀ a b : List RowD, rwt (a ++ b) = rwt a + rwt b
  | [], b => by simp [rwt]
  | x :: xs, b => by rw [List.cons_append, rwt, rwt, rwt_app xs]; omega
theorem sz_rows : ∀ (F : Fo) (d : Nat), szF F = rsz (rowsF d F)
  | .nil, _ => rfl
  | .cons ws ps b Kd R, d => by
    rw [rowsF, rsz, rsz_app, ← sz_rows Kd, ← sz_rows R, szF]
    simp only
    omega
theorem wt_rows : ∀ (F : Fo) (d : Nat), wtF F = rwt (rowsF d F)
  | .nil, _ => rfl
  | .cons ws ps b Kd R, d => by
    rw [rowsF, rwt, rwt_app, ← wt_rows Kd, ← wt_rows R, wtF]
    simp only
    omega
theorem WB_rows : ∀ (F : Fo) (d : Nat), (∀ r ∈ rowsF d F, ∀ w ∈ r.ws, w.size < 4294967281) → WB F
  | .nil, _, _ => trivial
  | .cons ws ps b Kd R, d, h => by
    rw [rowsF] at h
    exact ⟨h ⟨d, ws, ps, b⟩ (by simp), WB_rows Kd (d + 1) (fun r hr => h r (by simp [hr])), WB_rows R d (fun r hr => h r (by simp [hr]))⟩
theorem Gd_rows : ∀ (F : Fo) (d : Nat), (∀ r ∈ rowsF d F, 1 ≤ r.ws.length ∧ 1 ≤ r.ps.length) → Gd F
  | .nil, _, _ => trivial
  | .cons ws ps b Kd R, d, h => by
    rw [rowsF] at h
    have h0 := h ⟨d, ws, ps, b⟩ (by simp)
    exact ⟨h0.1, h0.2, Gd_rows Kd (d + 1) (fun r hr => h r (by simp [hr])), Gd_rows R d (fun r hr => h r (by simp [hr]))⟩
theorem dp_rows : ∀ (F : Fo) (d : Nat), (∀ r ∈ rowsF d F, r.deep ≤ 60) → dpF d F = true
  | .nil, _, _ => rfl
  | .cons ws ps b Kd R, d, h => by
    rw [rowsF] at h
    have h0 := h ⟨d, ws, ps, b⟩ (by simp)
    rw [dpF, dp_rows Kd (d + 1) (fun r hr => h r (by simp [hr])), dp_rows R d (fun r hr => h r (by simp [hr])), decide_eq_true h0]
    rfl
theorem okR_all : ∀ (L : List RowD) (d : Nat), d ≤ 30 → okR d L → ∀ r ∈ L, r.deep ≤ 30 ∧ 1 ≤ r.ws.length ∧ r.ws.length ≤ 8 ∧ r.ps.length = r.ws.length
  | q :: qs, d, hd, h, r, hr => by
    rcases List.mem_cons.1 hr with rfl | hr
    · exact ⟨Nat.le_trans h.1 hd, h.2.1, h.2.2.1, h.2.2.2.1⟩
    · exact okR_all qs _ (nG_le (Nat.le_trans h.1 hd)) h.2.2.2.2 r hr
theorem wsW_le {N : Nat} : ∀ (ws : List ByteArray), (∀ w ∈ ws, w.size ≤ N) → wsW ws ≤ ws.length * (N + 3)
  | [], _ => Nat.zero_le _
  | w :: ws, h => by
    have h1 := wsW_le ws (fun v hv => h v (by simp [hv]))
    have h2 := h w (by simp)
    rw [wsW, List.length_cons, Nat.succ_mul]
    omega
theorem rwt_le {C : Nat} : ∀ (L : List RowD), (∀ r ∈ L, wsW r.ws + 300 ≤ C) → rwt L ≤ L.length * C
  | [], _ => Nat.zero_le _
  | r :: rs, h => by
    have h1 := rwt_le rs (fun q hq => h q (by simp [hq]))
    have h2 := h r (by simp)
    rw [rwt, List.length_cons, Nat.succ_mul]
    omega
theorem rsz_le : ∀ (L : List RowD), (∀ r ∈ L, r.ws.length ≤ 8 ∧ r.ps.length = r.ws.length) → rsz L ≤ L.length * 17
  | [], _ => Nat.zero_le _
  | r :: rs, h => by
    have h1 := rsz_le rs (fun q hq => h q (by simp [hq]))
    have h2 := h r (by simp)
    rw [rsz, List.length_cons, Nat.succ_mul]
    omega
abbrev forG (L : List RowI) : Fo := nodesF (goodR 0 0 L).length 0 (goodR 0 0 L)
structure FG (L : List RowI) : Prop where
  rows : rowsF 0 (forG L) = goodR 0 0 L
  nodes : (forG L).nodes ≤ 120
  sz : szF (forG L) ≤ 2040
  wt : wtF (forG L) ≤ 4398046511104
  wb : WB (forG L)
  gd : Gd (forG L)
  dp : dpF 0 (forG L) = true
  ws : ∀ r ∈ goodR 0 0 L, r.ws.length ≤ 8 ∧ r.ps.length = r.ws.length
  len : (goodR 0 0 L).length ≤ 120
theorem fg_of (L : List RowI) (hw : ∀ r ∈ L, ∀ w ∈ r.ws, w.size ≤ 1048576) : FG L := by
  have hrows := good_rows L
  have hlen : (goodR 0 0 L).length ≤ 120 := by have := good_len L 0 0; omega
  have hall := okR_all _ 0 (by omega) (good_ok L 0 0)
  have hws : ∀ r ∈ goodR 0 0 L, ∀ w ∈ r.ws, w.size ≤ 1048576 := fun r hr w hw' => by
    obtain ⟨q, hq, e⟩ := good_words L 0 0 r hr
    rw [e] at hw'
    exact hw q hq w hw'
  refine ⟨hrows, ?_, ?_, ?_, ?_, ?_, ?_, fun r hr => ⟨(hall r hr).2.2.1, (hall r hr).2.2.2⟩, hlen⟩
  · rw [← nodes_rows _ 0, hrows]; exact hlen
  · rw [sz_rows _ 0, hrows]
    have := rsz_le _ (fun r hr => ⟨(hall r hr).2.2.1, (hall r hr).2.2.2⟩)
    omega
  · rw [wt_rows _ 0, hrows]
    have := rwt_le (C := 8388932) (goodR 0 0 L) (fun r hr => by
      have h1 := wsW_le r.ws (hws r hr)
      have h2 := (hall r hr).2.2.1
      have h3 : r.ws.length * (1048576 + 3) ≤ 8 * (1048576 + 3) := Nat.mul_le_mul_right _ h2
      omega)
    have h4 : (goodR 0 0 L).length * 8388932 ≤ 120 * 8388932 := Nat.mul_le_mul_right _ hlen
    omega
  · refine WB_rows _ 0 ?_
    rw [hrows]
    exact fun r hr w hw' => by have := hws r hr w hw'; omega
  · refine Gd_rows _ 0 ?_
    rw [hrows]
    exact fun r hr => by have := hall r hr; omega
  · refine dp_rows _ 0 ?_
    rw [hrows]
    exact fun r hr => by have := hall r hr; omega
theorem RiV.keep {w w' : World} {B : Nat → Prop} : ∀ {rs : List RowI} {xs : List Value}, RiV w B rs xs → (∀ b, B b → w'.heap[b]? = w.heap[b]?) → RiV w' B rs xs
  | [], _, h, _ => h
  | r :: rs, xs, h, hb => by
    obtain ⟨vw, A, n, c, xs', e, h1, h2⟩ := h
    exact ⟨vw, A, n, c, xs', e, ⟨h1.1, fun h => (h1.2 h).keep hb⟩, RiV.keep h2 hb⟩
end Go.Proofs.Ytihmmmodimionaa.Tr
/- Copies of statements whose rows are wholly their own: twin, twins (printed by gen_ym.py from UA and UB). -/
namespace Go.Proofs.Ytihmmmodimionaa.Tr
open Go.RowKit Go.Proofs.Ytihmmmodimionaa Go.Proofs.Ytihmmmodimionaa.Lx

/-- what twin and twins hand back -/
structure TwRS (w w' : World) (ws : List ByteArray) (ps : List (Int × Int)) (K : Fo) (vw vp vk : Value) (ys : List Value) (B : Nat → Prop) : Prop where
  b : Below w.heap.size w w'
  ow : w'.ownsRow w.heap.size 9 1 vw ws.length (ws.map Value.string)
  op : w'.ownsRow w.heap.size 24 2 vp ps.length (posC ps)
  k : LoS w w' vk K ys B
def TwinOutS (ws : List ByteArray) (ps : List (Int × Int)) (blk : Bool) (K : Fo) (w : World) (e : Ending) (w' : World) : Prop :=
  ∃ vw vp vk ys B, e = .returned (.agg #[vw, vp, .bool blk, vk]) ∧ TwRS w w' ws ps K vw vp vk ys B
def TwinsOutS (F : Fo) (w : World) (e : Ending) (w' : World) : Prop :=
  Below w.heap.size w w' ∧ ∃ v ys B, e = .returned v ∧ LoS w w' v F ys B
set_option maxHeartbeats 4000000 in
set_option maxRecDepth 100000 in
theorem twinS_walk (ws : List ByteArray) (ps : List (Int × Int)) (blk : Bool) (K : Fo) (Aw Ap Ak : Option Addr) (cw cp ck : Nat) (w : World) (hws : Src w Aw ws.length cw 1 (ws.map Value.string)) (hps : Src w Ap ps.length cp 2 (posC ps)) (h1 : 1 ≤ ws.length) (h2 : 1 ≤ ps.length) (h3 : ws.length ≤ 1099511627776) (h4 : ps.length ≤ 1099511627776)
    (HK : Hid (∀ x, Below w.heap.size w x → Calls Try.prog 39 #[.slice Ak K.len ck] x (TwinsOutS K x))) :
    Calls Try.prog 42 #[.agg #[.slice Aw ws.length cw, .slice Ap ps.length cp, .bool blk, .slice Ak K.len ck]] w (TwinOutS ws ps blk K w) := by
  have hb0 := below_wide (bel_one w (NodeC (.slice Aw ws.length cw) (.slice Ap ps.length cp) blk (.slice Ak K.len ck))) (bel_one (w.alloc (NodeC (.slice Aw ws.length cw) (.slice Ap ps.length cp) blk (.slice Ak K.len ck))) (NodeC (.slice none 0 0) (.slice none 0 0) false (.slice none 0 0)))
  have hbx : BX w.heap.size (.slice Aw ws.length cw) (.slice Ap ps.length cp) blk (.slice Ak K.len ck) ((w.alloc (NodeC (.slice Aw ws.length cw) (.slice Ap ps.length cp) blk (.slice Ak K.len ck))).alloc (NodeC (.slice none 0 0) (.slice none 0 0) false (.slice none 0 0))).drew := ⟨heap_old (heap_new w _)⟩
  have hrx : BX (w.heap.size + 1) (.slice none 0 0) (.slice none 0 0) false (.slice none 0 0) ((w.alloc (NodeC (.slice Aw ws.length cw) (.slice Ap ps.length cp) blk (.slice Ak K.len ck))).alloc (NodeC (.slice none 0 0) (.slice none 0 0) false (.slice none 0 0))).drew := ⟨heap_new2 w _ _⟩
  have HB0 := hide hb0.drew
  have HBX := hide hbx
  have HRX := hide hrx
  have HSZ := hide (show ((w.alloc (NodeC (.slice Aw ws.length cw) (.slice Ap ps.length cp) blk (.slice Ak K.len ck))).alloc (NodeC (.slice none 0 0) (.slice none 0 0) false (.slice none 0 0))).drew.heap.size = w.heap.size + 2 from by simp)
  have k0 := fun x => cell_heap (j := 0) (pin_in hbx x).h rfl
  have k1 := fun x => cell_heap (j := 1) (pin_in hbx x).h rfl
  have k3 := fun x => cell_heap (j := 3) (pin_in hbx x).h rfl
  have HWS := hide hws
  have HPS := hide hps
  clear hb0 hbx hrx hws hps
  go_enter Try.func42, Try.ntmps42
  go_wp2_with fail
  refine wp_region_tree (BX w.heap.size (.slice Aw ws.length cw) (.slice Ap ps.length cp) blk (.slice Ak K.len ck)) (fun k => ([10, 11, 12, 13, 14] : List Nat).contains k) (.take [0, 1, 3, 4, 6, 7] (.step 2 (.take [9] (.step 5 (.step 8 (.step 10 (.step 11 (.step 12 (.step 13 (.step 14 .done)))))))))) (by kernel_rfl) (by kernel_rfl) (by kernel_rfl) (by kernel_rfl) (.take (.cons (.zero) (.cons (.succ (.zero)) (.cons (.succ (.succ (.succ (.zero)))) (.cons (.succ (.succ (.succ (.succ (.zero))))) (.cons (.succ (.succ (.succ (.succ (.succ (.succ (.zero))))))) (.cons (.succ (.succ (.succ (.succ (.succ (.succ (.succ (.zero)))))))) .nil)))))) (.step (.succ (.succ (.zero))) rfl (.take (.cons (.succ (.succ (.succ (.succ (.succ (.succ (.succ (.succ (.succ (.zero)))))))))) .nil) (.step (.succ (.succ (.succ (.succ (.succ (.zero)))))) rfl (.step (.succ (.succ (.succ (.succ (.succ (.succ (.succ (.succ (.zero))))))))) rfl (.step (.succ (.succ (.succ (.succ (.succ (.succ (.succ (.succ (.succ (.succ (.zero))))))))))) rfl (.step (.succ (.succ (.succ (.succ (.succ (.succ (.succ (.succ (.succ (.succ (.succ (.zero)))))))))))) rfl (.step (.succ (.succ (.succ (.succ (.succ (.succ (.succ (.succ (.succ (.succ (.succ (.succ (.zero))))))))))))) rfl (.step (.succ (.succ (.succ (.succ (.succ (.succ (.succ (.succ (.succ (.succ (.succ (.succ (.succ (.zero)))))))))))))) rfl (.step (.succ (.succ (.succ (.succ (.succ (.succ (.succ (.succ (.succ (.succ (.succ (.succ (.succ (.succ (.zero))))))))))))))) rfl .done)))))))))) ?hQ ?hS ?_
  case hQ => exact fun _ _ _ _ _ h => h
  case hS => exact HBX.out
  refine wpT_take ?_
  repeat (first | go_big_quiet_step ((fail)) | quiet_step ((fail)))
  refine wpQuiet_nil ?_
  generalize ((w.alloc (NodeC (.slice Aw ws.length cw) (.slice Ap ps.length cp) blk (.slice Ak K.len ck))).alloc (NodeC (.slice none 0 0) (.slice none 0 0) false (.slice none 0 0))).drew = x0 at *
  refine wpT_step rfl ?_
  intro K1 hK1
  go_wp2_with fail
  refine (clone_str ws x0 (HWS.out.below HB0.out) h1 h3).mono ?_
  rintro e x1 ⟨vw, rfl, hw1, hb1⟩
  have HB1 := hide (below_lo HB0.out hb1 (by have := HSZ.out; omega))
  have HX1 := hide (HBX.out.below hb1)
  have HR1 := hide (HRX.out.below hb1)
  have HW1 := hide hw1
  have HS1 := hide (show w.heap.size + 2 ≤ x1.heap.size from by have h1 := HSZ.out; have h2 := hb1.size; omega)
  obtain ⟨Bw, dw, rfl⟩ := own_slice hw1
  clear hb1 hw1
  refine hK1.out _ _ (fun _ => pin_mem HX1.out) ?_
  clear hK1
  refine wpT_take ?_
  repeat (first | go_big_quiet_step ((fail)) | quiet_step ((fail)))
  refine wpQuiet_nil ?_
  refine wpT_step rfl ?_
  intro K1 hK1
  go_wp2_with fail
  refine (clone_posc ps x1 (HPS.out.below HB1.out) h2 h4).mono ?_
  rintro e x2 ⟨vp, rfl, hp2, hb2⟩
  have HB2 := hide (below_lo HB1.out hb2 (by have := HS1.out; omega))
  have HX2 := hide (HX1.out.below hb2)
  have HR2 := hide (HR1.out.below hb2)
  have HW2 := hide (own_belw HW1.out hb2)
  have HP2 := hide hp2
  have HS2 := hide (Nat.le_trans HS1.out hb2.size)
  obtain ⟨Bp, dp, rfl⟩ := own_slice hp2
  clear hb2 hp2
  refine hK1.out _ _ (fun _ => pin_mem HX2.out) ?_
  clear hK1
  have HTW := hide (HK.out x2 HB2.out)
  refine wpT_step rfl ?_
  intro K1 hK1
  go_wp2_with fail
  refine HTW.out.mono ?_
  rintro e x3 ⟨hb3, vk, ys, B, rfl, hl3⟩
  have HB3 := hide (below_lo HB2.out hb3 (by have := HS2.out; omega))
  have HX3 := hide (HX2.out.below hb3)
  have HR3 := hide (HR2.out.below hb3)
  have HW3 := hide (own_belw HW2.out hb3)
  have HP3 := hide (own_belw HP2.out hb3)
  have HL3 := hide hl3
  have HS3 := hide (Nat.le_trans HS2.out hb3.size)
  obtain ⟨Bk, dk, rfl⟩ := own_slice hl3.own
  have c0 := cell_heap (j := 0) HX3.out.h rfl
  have f0 := frozen_heap (j := 0) HX3.out.h
  clear hb3 hl3 HTW k0 k1 k3
  refine hK1.out _ _ (fun _ => pin_mem HX3.out) ?_
  clear hK1
  refine wpT_step rfl ?_
  intro K1 hK1
  go_wp2_with fail
  refine hK1.out _ _ (fun h => by cases h) ?_
  clear hK1
  have g1 := heap_set (j := 0) (u := .slice Bw ws.length dw) HX3.out.h
  have c1 := cell_heap (j := 1) g1 rfl
  have f1 := frozen_heap (j := 1) g1
  clear c0 f0
  refine wpT_step rfl ?_
  intro K1 hK1
  go_wp2_with fail
  refine hK1.out _ _ (fun h => by cases h) ?_
  clear hK1
  refine wpT_step rfl ?_
  intro K1 hK1
  go_wp2_with fail
  refine hK1.out _ _ (fun h => by cases h) ?_
  clear hK1
  have g2 := heap_set (j := 1) (u := .slice Bp ps.length dp) g1
  have c3 := cell_heap (j := 3) g2 rfl
  have f3 := frozen_heap (j := 3) g2
  clear c1 f1
  refine wpT_step rfl ?_
  intro K1 hK1
  go_wp2_with fail
  refine hK1.out _ _ (fun h => by cases h) ?_
  clear hK1
  refine wpT_step rfl ?_
  intro K1 hK1
  go_wp2_with fail
  refine hK1.out _ _ (fun h => by cases h) ?_
  clear hK1 c3 f3
  refine wpT_done ?_
  have g3 := heap_set (j := 3) (u := .slice Bk K.len dk) g2
  have HOX := hide (only_set (only_set (only_set (only_refl w.heap.size x3) 0 (.slice Bw ws.length dw)) 1 (.slice Bp ps.length dp)) 3 (.slice Bk K.len dk))
  have HG3 := hide g3
  have HR4 := hide (only_heap HOX.out HR3.out.h (by omega))
  generalize ((x3.setCell ⟨w.heap.size, 0, none⟩ (.slice Bw ws.length dw)).setCell ⟨w.heap.size, 1, none⟩ (.slice Bp ps.length dp)).setCell ⟨w.heap.size, 3, none⟩ (.slice Bk K.len dk) = x4 at *
  clear g1 g2 g3
  have c0 := cell_heap (j := 0) HG3.out rfl
  have c1 := cell_heap (j := 1) HG3.out rfl
  have c2 := cell_heap (j := 2) HG3.out rfl
  have c3 := cell_heap (j := 3) HG3.out rfl
  have r0 := cell_heap (j := 0) HR4.out rfl
  have r1 := cell_heap (j := 1) HR4.out rfl
  have r2 := cell_heap (j := 2) HR4.out rfl
  have r3 := cell_heap (j := 3) HR4.out rfl
  have rf0 := frozen_heap (j := 0) HR4.out
  have rf1 := frozen_heap (j := 1) HR4.out
  have rf2 := frozen_heap (j := 2) HR4.out
  have rf3 := frozen_heap (j := 3) HR4.out
  go_wp2_with fail
  have hq := heap_set (j := 3) (u := .slice Bk K.len dk) (heap_set (j := 2) (u := .bool blk) (heap_set (j := 1) (u := .slice Bp ps.length dp) (heap_set (j := 0) (u := .slice Bw ws.length dw) HR4.out)))
  have HOY := hide (only_set (only_set (only_set (only_set (only_refl (w.heap.size + 1) x4) 0 (.slice Bw ws.length dw)) 1 (.slice Bp ps.length dp)) 2 (.bool blk)) 3 (.slice Bk K.len dk))
  generalize (((x4.setCell ⟨w.heap.size + 1, 0, none⟩ (.slice Bw ws.length dw)).setCell ⟨w.heap.size + 1, 1, none⟩ (.slice Bp ps.length dp)).setCell ⟨w.heap.size + 1, 2, none⟩ (.bool blk)).setCell ⟨w.heap.size + 1, 3, none⟩ (.slice Bk K.len dk) = x5 at *
  have q0 := cell_heap (j := 0) hq rfl
  have q1 := cell_heap (j := 1) hq rfl
  have q2 := cell_heap (j := 2) hq rfl
  have q3 := cell_heap (j := 3) hq rfl
  refine bodyPost_ret (v := .agg #[.slice Bw ws.length dw, .slice Bp ps.length dp, .bool blk, .slice Bk K.len dk]) (by simp [results, Try.results42, go_sem, q0, q1, q2, q3]) rfl ?_
  have s0 := HSZ.out
  have s1 := HS1.out
  refine ⟨_, _, _, ys, B, rfl, ⟨below_only (below_only HB3.out HOX.out (Nat.le_refl _) HB3.out.size) HOY.out (by omega) (Nat.le_trans HB3.out.size HOX.out.size), ?_, ?_, ?_⟩⟩
  · exact own_base (own_grow (own_grow HW3.out HOX.out (fun b e => by injection e with e; omega)) HOY.out (fun b e => by injection e with e; omega)) (by omega)
  · exact own_base (own_grow (own_grow HP3.out HOX.out (fun b e => by injection e with e; omega)) HOY.out (fun b e => by injection e with e; omega)) (by omega)
  · have h2 := HS2.out
    exact ((HL3.out.grow HOX.out (fun b e => by injection e with e; omega)).grow HOY.out (fun b e => by injection e with e; omega)).base (by omega)
structure TwLS (w wr : World) (va : Value) (F : Fo) (i : Nat) (Fd R : Fo) (ys xs : List Value) (B D : Nat → Prop) : Prop where
  bl : Below w.heap.size w wr
  lo : LoS w wr va Fd ys B
  fo : FoV w D R (xs.drop (i * 4))
  len : i + R.len = F.len
  dl : Fd.len = i
  nodes : R.nodes ≤ F.nodes
  sz : szF R ≤ szF F
  gd : Gd R
  eq : Fd.app R = F
set_option maxHeartbeats 4000000 in
set_option maxRecDepth 100000 in
theorem twinsS_any : ∀ (n : Nat) (F : Fo), F.nodes = n → ∀ (A : Option Addr) (c : Nat) (xs : List Value) (D : Nat → Prop) (w : World), Src w A F.len c 4 xs → FoV w D F xs → (∀ q, D q → q < w.heap.size) → (∀ a, A = some a → a.block < w.heap.size) → szF F ≤ 1099511627776 → Gd F →
    Calls Try.prog 39 #[.slice A F.len c] w (TwinsOutS F w) := by
  intro n
  induction n using Nat.strongRecOn with
  | _ n ih =>
  intro F hn A c xs D w hs hf hD hA hsz hgd
  obtain ⟨ni, nz0, nz, ns, nb⟩ := info_parts infoN
  have HIH := hide ih
  have HS := hide hs
  have HST := hide (show TwLS w w (.slice none 0 0) F 0 .nil F [] xs (fun _ => False) D from ⟨Below.refl _ _, los_nil w w, by simpa using hf, by simp, rfl, Nat.le_refl _, Nat.le_refl _, hgd, rfl⟩)
  have hlF := len_sz F
  have hFl : F.len ≤ 1099511627776 := by omega
  have HD := hide hD
  have HA := hide hA
  have HN := hide hn
  have HZ := hide hsz
  clear hs hf hD hA hsz hgd ih hn hlF
  go_enter Try.func39, Try.ntmps39
  go_wp2_with fail
  go_loopw [3, 8] (fun va j wr => ∃ (i : Nat) (Fd R : Fo) (ys : List Value) (B : Nat → Prop), j = .int .i64 i ∧ TwLS w wr va F i Fd R ys xs B D) (fun _ j _ => F.len - (intOf j).toNat)
  case atStart => exact ⟨0, .nil, F, [], _, rfl, HST.out⟩
  case round =>
    clear HST
    obtain ⟨i, Fd, R, zs, B, rfl, hX⟩ := hrel
    obtain ⟨Av, cv, rfl⟩ := own_slice hX.lo.own
    have hdl : Fd.len = i := hX.dl
    have HX := hide hX
    clear hX
    cases R with
    | nil =>
      have hi : i = F.len := by have := HX.out.len; simpa [Fo.len] using this
      have d1 : decide (i < F.len) = false := decide_eq_false (by omega)
      have d1' : decide ((i : Int) < (F.len : Int)) = false := decide_eq_false (by omega)
      have he : Fd = F := by have := HX.out.eq; rwa [Fo.app_nil] at this
      have HL := hide (show LoS w wr (.slice Av Fd.len cv) F zs B from by rw [← he]; exact HX.out.lo)
      clear hi he hdl
      go_wp2_with fail
      go_ret
      exact ⟨HX.out.bl, _, _, _, rfl, HL.out⟩
    | cons ws ps blk K R =>
      have hlen : i + (R.len + 1) = F.len := HX.out.len
      have d1 : decide (i < F.len) = true := decide_eq_true (by omega)
      have d1' : decide ((i : Int) < (F.len : Int)) = true := decide_eq_true (by omega)
      have d2 : ((i : Int) < (F.len : Int)) := by omega
      obtain ⟨vw, vp, Ak, ck, ys, g0, g1, g2, g3, hvw, hvp, hks, hkA, hkF, hRF⟩ := drop_fo HX.out.fo
      obtain ⟨ab, ao, rfl⟩ := src_spot HS.out (by omega) (by decide)
      have hsc := src_cells HS.out
      have hadB := HA.out _ rfl
      have c0 := cell_lo HX.out.bl (a := ⟨ab, ao + i * 4, none⟩) hadB (hsc _ _ g0)
      have c1 := cell_lo HX.out.bl (a := ⟨ab, ao + i * 4 + 1, none⟩) hadB (by rw [Nat.add_assoc]; exact hsc _ _ g1)
      have c2 := cell_lo HX.out.bl (a := ⟨ab, ao + i * 4 + 2, none⟩) hadB (by rw [Nat.add_assoc]; exact hsc _ _ g2)
      have c3 := cell_lo HX.out.bl (a := ⟨ab, ao + i * 4 + 3, none⟩) hadB (by rw [Nat.add_assoc]; exact hsc _ _ g3)
      obtain ⟨Aw, cw, rfl, hws, hwB⟩ := hvw
      obtain ⟨Ap, cp, rfl, hps, hpB⟩ := hvp
      have hno : Fo.nodes (.cons ws ps blk K R) = K.nodes + R.nodes + 1 := rfl
      have HNO := hide (show K.nodes < n ∧ R.nodes ≤ F.nodes from by have h1 := HX.out.nodes; have h2 := HN.out; omega)
      have hszR : szF (.cons ws ps blk K R) = ws.length + ps.length + 1 + szF K + szF R := rfl
      have hszb : ws.length + ps.length + 1 + szF K + szF R ≤ 1099511627776 := by have h1 := HX.out.sz; have h2 := HZ.out; omega
      have HSR := hide (show szF R ≤ szF F from by have h1 := HX.out.sz; omega)
      have hg := HX.out.gd
      have HGR := hide hg.2.2.2
      have hkl : K.len ≤ 1099511627776 := by have h1 := len_sz K; omega
      have hwl : ws.length ≤ 1099511627776 := by omega
      have hpl : ps.length ≤ 1099511627776 := by omega
      have HRF := hide hRF
      have HLEN := hide hlen
      have hb1 := below_lo HX.out.bl (bel_one wr (NodeC (.slice Aw ws.length cw) (.slice Ap ps.length cp) blk (.slice Ak K.len ck))) HX.out.bl.size
      have HB1 := hide hb1
      have HTW := hide (twinS_walk ws ps blk K Aw Ap Ak cw cp ck (wr.alloc (NodeC (.slice Aw ws.length cw) (.slice Ap ps.length cp) blk (.slice Ak K.len ck))) (hws.below hb1) (hps.below hb1) hg.1 hg.2.1 hwl hpl
        (hide (fun x hx => HIH.out K.nodes HNO.out.1 K rfl Ak ck ys D x (hks.below (below_lo hb1 hx hb1.size)) (hkF.keep (fun q hq => (below_lo hb1 hx hb1.size).block q (HD.out q hq))) (fun q hq => Nat.lt_of_lt_of_le (HD.out q hq) (below_lo hb1 hx hb1.size).size) (fun a ha => Nat.lt_of_lt_of_le (HD.out _ (hkA a ha)) (below_lo hb1 hx hb1.size).size) (by omega) hg.2.2.1)))
      have HL1 := hide (HX.out.lo.grow (World.grownBy_alloc wr (NodeC (.slice Aw ws.length cw) (.slice Ap ps.length cp) blk (.slice Ak K.len ck)) none) (fun b e => by cases e))
      have HA1 := hide (show ∀ g, (Value.slice Av Fd.len cv).ownBlock = some g → g < (wr.alloc (NodeC (.slice Aw ws.length cw) (.slice Ap ps.length cp) blk (.slice Ak K.len ck))).heap.size from fun g e => (HL1.out.own.lt g e).2)
      clear hsc g0 g1 g2 g3 hks hkA hkF hRF hws hwB hps hpB hno hszR hszb hg hlen hadB hb1 hwl hpl
      go_wp2_with fail
      refine HTW.out.mono ?_
      generalize wr.alloc (NodeC (.slice Aw ws.length cw) (.slice Ap ps.length cp) blk (.slice Ak K.len ck)) = w1 at *
      rintro e x2 ⟨vw, vp, vk, ks, BK, rfl, ht⟩
      have HB2 := hide (below_lo HB1.out ht.b HB1.out.size)
      have HL2 := hide (HL1.out.grow (grown_of_below ht.b) (fun b e => by cases e))
      have HT := hide ht
      obtain ⟨Bw, dw, rfl⟩ := own_slice ht.ow
      obtain ⟨Bp, dp, rfl⟩ := own_slice ht.op
      obtain ⟨Bk, dk, rfl⟩ := own_slice ht.k.own
      have hln := los_one blk HT.out.b.size HT.out.ow HT.out.op HT.out.k
      have HLN := hide hln
      have HRW := hide (row_at (heap_new x2 (NodeC (.slice Bw ws.length dw) (.slice Bp ps.length dp) blk (.slice Bk K.len dk))))
      have HL3 := hide (HL2.out.grow (World.grownBy_alloc x2 (NodeC (.slice Bw ws.length dw) (.slice Bp ps.length dp) blk (.slice Bk K.len dk)) none) (fun b e => by cases e))
      have HB3 := hide (below_lo HB2.out (bel_one x2 (NodeC (.slice Bw ws.length dw) (.slice Bp ps.length dp) blk (.slice Bk K.len dk))) HB2.out.size)
      have HDL := hide hdl
      clear ht hln hdl HTW
      go_wp2_with (at_builtin; go_must (refine wpList_append_own_at _ rfl (.tmp 12) (.tmp 15) 36 rfl w.heap.size 44 ni _ 4 80 Try.underlying36 nz0 nz ns nb rfl (by decide) _ _ _ rfl HL3.out.own ⟨x2.heap.size, 0, none⟩ 1 1 [.slice Bw ws.length dw, .slice Bp ps.length dp, .bool blk, .slice Bk K.len dk] rfl rfl HRW.out ?ones ?c63 ?cby ?cbase ?_))
      case ones => simp [Value.oneCell']
      case c63 => have h1 := HDL.out; have h2 := HLEN.out; unfold maxLen; omega
      case cby => have h1 := HDL.out; have h2 := HLEN.out; omega
      case cbase => exact HB3.out.size
      intro v' w4 hown hgr _ hk2
      have hap := LoS.app HL3.out HLN.out HA1.out HB1.out.size hown hgr (by rw [World.size_alloc]; exact hk2)
      have HF := hide (show TwLS w w4 v' F (i + 1) (Fd.app (.cons ws ps blk K .nil)) R _ xs _ D from ⟨HB3.out.grown hgr HB3.out.size (fun g e => (HL3.out.own.lt g e).1), hap, HRF.out, by have := HLEN.out; omega, by rw [Fo.len_app, HDL.out]; rfl, HNO.out.2, HSR.out, HGR.out, by rw [app_cons]; exact HX.out.eq⟩)
      clear hown hgr hk2 hap
      go_wp2_with fail
      go_roundw
      case rel => exact ⟨i + 1, _, _, _, _, by go_num, HF.out⟩
      case measure => have := HLEN.out; simp [intOf]; omega
end Go.Proofs.Ytihmmmodimionaa.Tr
/- tree.Find, walked. -/
namespace Go.Proofs.Ytihmmmodimionaa.Tr
open Go.RowKit Go.Proofs.Ytihmmmodimionaa Go.Proofs.Ytihmmmodimionaa.Lx

def findF (us : List ByteArray) : Fo → Option Fo
  | .nil => none
  | .cons ws _ b K R => if b = true ∧ ws = us then some K else findF us R
def FindOut (us : List ByteArray) (F : Fo) (w : World) (e : Ending) (w' : World) : Prop :=
  Below w.heap.size w w' ∧ match findF us F with
    | some K => ∃ v ys B, e = .returned (.tuple #[v, .bool true]) ∧ LoS w w' v K ys B
    | none => e = .returned (.tuple #[.slice none 0 0, .bool false])
structure FnL (us : List ByteArray) (w wr : World) (F : Fo) (i : Nat) (R : Fo) (xs : List Value) (D : Nat → Prop) : Prop where
  bl : Below w.heap.size w wr
  fo : FoV w D R (xs.drop (i * 4))
  len : i + R.len = F.len
  sz : szF R ≤ szF F
  gd : Gd R
  eq : findF us F = findF us R
set_option maxHeartbeats 4000000 in
set_option maxRecDepth 100000 in
theorem find_any (us : List ByteArray) (F : Fo) (A Q : Option Addr) (c d : Nat) (xs : List Value) (D : Nat → Prop) (w : World) (hs : Src w A F.len c 4 xs) (hf : FoV w D F xs) (hD : ∀ q, D q → q < w.heap.size) (hA : ∀ a, A = some a → a.block < w.heap.size) (hsz : szF F ≤ 1099511627776) (hgd : Gd F) (hus : Src w Q us.length d 1 (us.map Value.string)) (hul : us.length ≤ 1099511627776) :
    Calls Try.prog 14 #[.slice A F.len c, .slice Q us.length d] w (FindOut us F w) := by
  have HS := hide hs
  have HU := hide hus
  have HST := hide (show FnL us w w F 0 F xs D from ⟨Below.refl _ _, by simpa using hf, by simp, Nat.le_refl _, hgd, rfl⟩)
  have hlF := len_sz F
  have hFl : F.len ≤ 1099511627776 := by omega
  have HD := hide hD
  have HA := hide hA
  have HZ := hide hsz
  clear hs hf hD hA hsz hgd hlF hus
  go_enter Try.func14, Try.ntmps14
  go_wp2_with fail
  go_loopw [10] (fun j wr => ∃ (i : Nat) (R : Fo), j = .int .i64 i ∧ FnL us w wr F i R xs D) (fun j _ => F.len - (intOf j).toNat)
  case atStart => exact ⟨0, F, rfl, HST.out⟩
  case round =>
    clear HST
    obtain ⟨i, R, rfl, hX⟩ := hrel
    obtain ⟨wa, rfl⟩ : ∃ x, x = wr := ⟨wr, rfl⟩
    have HX := hide hX
    clear hX
    cases R with
    | nil =>
      have hi : i = F.len := by have := HX.out.len; simpa [Fo.len] using this
      have d1 : decide (i < F.len) = false := decide_eq_false (by omega)
      have d1' : decide ((i : Int) < (F.len : Int)) = false := decide_eq_false (by omega)
      have HE := hide (show findF us F = none from HX.out.eq)
      clear hi
      go_wp2_with fail
      go_returns
      exact ⟨HX.out.bl, by rw [HE.out]; rfl⟩
    | cons ws ps b K R =>
      have hlen : i + (R.len + 1) = F.len := HX.out.len
      have d1 : decide (i < F.len) = true := decide_eq_true (by omega)
      have d1' : decide ((i : Int) < (F.len : Int)) = true := decide_eq_true (by omega)
      have d2 : ((i : Int) < (F.len : Int)) := by omega
      obtain ⟨vw, vp, Ak, ck, ys, g0, g1, g2, g3, hvw, hvp, hks, hkA, hkF, hRF⟩ := drop_fo HX.out.fo
      obtain ⟨ab, ao, rfl⟩ := src_spot HS.out (by omega) (by decide)
      have hsc := src_cells HS.out
      have hadB := HA.out _ rfl
      have c0 := cell_lo HX.out.bl (a := ⟨ab, ao + i * 4, none⟩) hadB (hsc _ _ g0)
      have c1 := cell_lo HX.out.bl (a := ⟨ab, ao + i * 4 + 1, none⟩) hadB (by rw [Nat.add_assoc]; exact hsc _ _ g1)
      have c2 := cell_lo HX.out.bl (a := ⟨ab, ao + i * 4 + 2, none⟩) hadB (by rw [Nat.add_assoc]; exact hsc _ _ g2)
      have c3 := cell_lo HX.out.bl (a := ⟨ab, ao + i * 4 + 3, none⟩) hadB (by rw [Nat.add_assoc]; exact hsc _ _ g3)
      obtain ⟨Aw, cw, rfl, hws, hwB⟩ := hvw
      obtain ⟨Ap, cp, rfl, hps, hpB⟩ := hvp
      have hszR : szF (.cons ws ps b K R) = ws.length + ps.length + 1 + szF K + szF R := rfl
      have hszb : ws.length + ps.length + 1 + szF K + szF R ≤ 1099511627776 := by have h1 := HX.out.sz; have h2 := HZ.out; omega
      have hg := HX.out.gd
      have hl : ws.length ≤ 1099511627776 := by omega
      have HEW := hide (show ∀ w2, Below w.heap.size w w2 → findF us F = findF us R → FnL us w w2 F (i + 1) R xs D from fun w2 h2 he => ⟨h2, hRF, by omega, by have h1 := HX.out.sz; omega, hg.2.2.2, he⟩)
      have HEQ0 := hide (show findF us F = if b = true ∧ ws = us then some K else findF us R from HX.out.eq)
      have hn := heap_new wa (NodeC (.slice Aw ws.length cw) (.slice Ap ps.length cp) b (.slice Ak K.len ck))
      have n0 := cell_heap (j := 0) hn rfl
      have n2 := cell_heap (j := 2) hn rfl
      have n3 := cell_heap (j := 3) hn rfl
      have hb1 := below_lo HX.out.bl (bel_one wa (NodeC (.slice Aw ws.length cw) (.slice Ap ps.length cp) b (.slice Ak K.len ck))) HX.out.bl.size
      have HB1 := hide hb1
      have HN := hide hn
      have HEQ := hide (eq_str ws us _ (hws.below hb1) (HU.out.below hb1) hl hul)
      have HTW := hide (fun (x : World) (hx : Below w.heap.size w x) => twinsS_any K.nodes K rfl Ak ck ys D x (hks.below hx) (hkF.keep (fun q hq => hx.block q (HD.out q hq))) (fun q hq => Nat.lt_of_lt_of_le (HD.out q hq) hx.size) (fun a ha => Nat.lt_of_lt_of_le (HD.out _ (hkA a ha)) hx.size) (by omega) hg.2.2.1)
      have HLT := hide (show i < F.len from by omega)
      clear hsc g0 g1 g2 g3 hks hkA hkF hRF hws hwB hps hpB hszR hszb hg hlen hadB hb1 hn hl
      cases b with
      | false =>
        have HE1 := hide (show findF us F = findF us R from by rw [HEQ0.out, if_neg (by rintro ⟨h, _⟩; cases h)])
        clear HEQ HTW HEQ0
        go_wp2_with fail
        go_roundw
        case rel => exact ⟨i + 1, R, by go_num, HEW.out _ HB1.out HE1.out⟩
        case measure => have := HLT.out; simp [intOf]; omega
      | true =>
        by_cases hwu : ws = us
        · rw [decide_eq_true hwu] at HEQ
          have HE1 := hide (show findF us F = some K from by rw [HEQ0.out, if_pos ⟨rfl, hwu⟩])
          clear HEQ0 hwu
          go_wp2_with fail
          refine HEQ.out.mono ?_
          rintro e x2 ⟨rfl, hb3⟩
          have HB3 := hide (below_lo HB1.out hb3 HB1.out.size)
          have k3 := cell_heap (j := 3) (heapB hb3 HN.out) rfl
          clear hb3 n0 n2 n3 HEQ
          go_wp2_with fail
          refine (HTW.out _ HB3.out).mono ?_
          rintro e x3 ⟨hb4, v, zs, B, rfl, hl4⟩
          have HB4 := hide (below_lo HB3.out hb4 HB3.out.size)
          have HL4 := hide (hl4.base HB3.out.size)
          clear hb4 hl4 HTW
          go_wp2_with fail
          go_returns
          exact ⟨HB4.out, by rw [HE1.out]; exact ⟨v, zs, B, rfl, HL4.out⟩⟩
        · rw [decide_eq_false hwu] at HEQ
          have HE1 := hide (show findF us F = findF us R from by rw [HEQ0.out, if_neg (fun h => hwu h.2)])
          clear HEQ0 hwu HTW
          go_wp2_with fail
          refine HEQ.out.mono ?_
          rintro e x2 ⟨rfl, hb3⟩
          have HB3 := hide (below_lo HB1.out hb3 HB1.out.size)
          clear hb3 n0 n2 n3 HEQ
          go_wp2_with fail
          go_roundw
          case rel => exact ⟨i + 1, R, by go_num, HEW.out _ HB3.out HE1.out⟩
          case measure => have := HLT.out; simp [intOf]; omega
end Go.Proofs.Ytihmmmodimionaa.Tr
/- What the document's Print, Same and Find say of rows is what is said of statements; no program is in sight. -/
namespace Go.Proofs.Ytihmmmodimionaa.Tr
open Go.RowKit Go.Proofs.Ytihmmmodimionaa Go.Proofs.Ytihmmmodimionaa.Lx

/-! ### Same -/
theorem core_in {d : Nat} : ∀ {A B : List RowD}, A.map coreR = B.map coreR → (inR d A).map coreR = (inR d B).map coreR ∧ (outR d A).map coreR = (outR d B).map coreR
  | [], [], _ => ⟨rfl, rfl⟩
  | [], _ :: _, h => by cases h
  | _ :: _, [], h => by cases h
  | r :: rs, q :: qs, h => by
    rw [List.map_cons, List.map_cons] at h
    injection h with h1 h2
    have hd : r.deep = q.deep := congrArg (fun p => p.1) h1
    obtain ⟨h3, h4⟩ := core_in (d := d) h2
    rw [inR_cons, inR_cons, outR_cons, outR_cons, hd]
    by_cases hl : d < q.deep
    · rw [if_pos hl, if_pos hl, if_pos hl, if_pos hl, List.map_cons, List.map_cons, h1, h3]
      exact ⟨rfl, h4⟩
    · rw [if_neg hl, if_neg hl, if_neg hl, if_neg hl, List.map_cons, List.map_cons, h1, h2]
      exact ⟨rfl, rfl⟩
theorem same_of_core : ∀ (n d : Nat) (A B : List RowD), A.map coreR = B.map coreR → sameF (nodesF n d A) (nodesF n d B) = true
  | 0, _, _, _, _ => rfl
  | n + 1, _, [], [], _ => rfl
  | n + 1, _, [], _ :: _, h => by cases h
  | n + 1, _, _ :: _, [], h => by cases h
  | n + 1, d, r :: rs, q :: qs, h => by
    rw [List.map_cons, List.map_cons] at h
    injection h with h1 h2
    have ho : r.op = q.op := congrArg (fun p => p.2.1) h1
    have hw : r.ws = q.ws := congrArg (fun p => p.2.2) h1
    obtain ⟨h3, h4⟩ := core_in (d := d) h2
    rw [nodesF, nodesF, sameF, same_of_core n d _ _ h4, ho, hw]
    cases q.op with
    | true => rw [if_pos rfl, if_pos rfl, same_of_core n (d + 1) _ _ h3]; simp
    | false => simp [sameF]
theorem core_of_same : ∀ (F G : Fo) (d : Nat), sameF F G = true → (rowsF d F).map coreR = (rowsF d G).map coreR
  | .nil, .nil, _, _ => rfl
  | .nil, .cons _ _ _ _ _, _, h => by cases h
  | .cons _ _ _ _ _, .nil, _, h => by cases h
  | .cons ws ps b K R, .cons us qs c L S, d, h => by
    rw [sameF] at h
    simp only [Bool.and_eq_true, beq_iff_eq, decide_eq_true_eq] at h
    obtain ⟨⟨h1, h2, h3⟩, h4⟩ := h
    rw [rowsF, rowsF, List.map_cons, List.map_cons, List.map_append, List.map_append, core_of_same K L (d + 1) h3, core_of_same R S d h4, h1, h2]
    rfl
theorem same_rows (L M : List RowI) : sameF (forG L) (forG M) = sameR (goodR 0 0 L) (goodR 0 0 M) := by
  unfold sameR
  by_cases h : (goodR 0 0 L).map coreR = (goodR 0 0 M).map coreR
  · rw [decide_eq_true h]
    have hl : (goodR 0 0 L).length = (goodR 0 0 M).length := by simpa using congrArg List.length h
    unfold forG
    rw [hl]
    exact same_of_core _ _ _ _ h
  · rw [decide_eq_false h]
    rw [Bool.eq_false_iff]
    intro hs
    have := core_of_same _ _ 0 hs
    unfold forG at this
    rw [good_rows, good_rows] at this
    exact h this
/-! ### Find -/
theorem okR_drop : ∀ (i : Nat) (d : Nat) (A : List RowD) (r : RowD), okR d A → A[i]? = some r → okR (nG r.op r.deep) (A.drop (i + 1))
  | 0, _, q :: qs, r, h, hi => by
    obtain rfl : q = r := by simpa using hi
    exact h.2.2.2.2
  | i + 1, _, q :: qs, r, h, hi => by
    rw [List.drop_succ_cons]
    exact okR_drop i _ qs r h.2.2.2.2 (by simpa using hi)
  | 0, _, [], _, _, hi => by simp at hi
  | _ + 1, _, [], _, _, hi => by simp at hi
theorem find_start {us : List ByteArray} {A : List RowD} (n : Nat) (h : okR 0 A) : findF us (nodesF n 0 A) = findF us (nodesF n 0 (outR 0 (A.drop 0))) := by
  rw [List.drop_zero]
  cases A with
  | nil => rfl
  | cons r rs =>
    rw [outR_cons, if_neg (by have := h.1; omega)]
theorem drop_at {A : List RowD} {i : Nat} {r : RowD} (h : A[i]? = some r) : A.drop i = r :: A.drop (i + 1) := by
  obtain ⟨h1, rfl⟩ := List.getElem?_eq_some_iff.1 h
  exact List.drop_eq_getElem_cons h1
theorem find_deep {us : List ByteArray} {A : List RowD} {i n : Nat} {r : RowD} (hr : A[i]? = some r) (hd : r.deep ≠ 0) : findF us (nodesF n 0 (outR 0 (A.drop i))) = findF us (nodesF n 0 (outR 0 (A.drop (i + 1)))) := by
  rw [drop_at hr, outR_cons, if_pos (by omega)]
theorem find_flat {us : List ByteArray} {A : List RowD} {i : Nat} {r : RowD} (hr : A[i]? = some r) (hd : r.deep = 0) : findF us (nodesF A.length 0 (outR 0 (A.drop i))) = if r.op = true ∧ r.ws = us then some (nodesF A.length 1 (inR 0 (A.drop (i + 1)))) else findF us (nodesF A.length 0 (outR 0 (A.drop (i + 1)))) := by
  have hi : i < A.length := (List.getElem?_eq_some_iff.1 hr).1
  have hlen := in_len 0 (A.drop (i + 1))
  rw [List.length_drop] at hlen
  rw [drop_at hr, outR_cons, if_neg (by omega)]
  obtain ⟨n, hn⟩ : ∃ n, A.length = n + 1 := ⟨A.length - 1, by omega⟩
  conv => lhs; rw [hn]
  rw [nodesF, findF, nodes_fuel n A.length 0 (outR 0 (A.drop (i + 1))) (by omega) (by omega)]
  by_cases hc : r.op = true ∧ r.ws = us
  · rw [if_pos hc, if_pos hc, if_pos hc.1, nodes_fuel n A.length 1 (inR 0 (A.drop (i + 1))) (by omega) (by omega)]
  · rw [if_neg hc, if_neg hc]
theorem find_end {us : List ByteArray} {A : List RowD} {i : Nat} (h : A.length ≤ i) (n : Nat) : findF us (nodesF n 0 (outR 0 (A.drop i))) = none := by
  rw [List.drop_eq_nil_of_le h]
  cases n <;> rfl
theorem find_kids {A : List RowD} {i : Nat} {r : RowD} (hok : okR 0 A) (hr : A[i]? = some r) (hd : r.deep = 0) (ho : r.op = true) : rowsF 1 (nodesF A.length 1 (inR 0 (A.drop (i + 1)))) = inR 0 (A.drop (i + 1)) := by
  have h1 := okR_drop i 0 A r hok hr
  rw [ho, hd] at h1
  have h2 : okR 1 (inR 0 (A.drop (i + 1)) ++ outR 0 (A.drop (i + 1))) := by rw [in_out]; exact h1
  have hlen := in_len 0 (A.drop (i + 1))
  rw [List.length_drop] at hlen
  exact rows_nodes _ 1 _ (by omega) (okR_app _ _ _ h2).1 inR_all
/-! ### Print -/
def closesT : Nat → Nat → List UInt8
  | 0, _ => []
  | d + 1, z => if z ≤ d then indT d ++ [125, 10] ++ closesT d z else []
def oApp (a b : Option (List UInt8)) : Option (List UInt8) := match a with | none => none | some x => match b with | none => none | some y => some (x ++ y)
theorem oApp_assoc (a b c : Option (List UInt8)) : oApp (oApp a b) c = oApp a (oApp b c) := by
  cases a <;> cases b <;> cases c <;> simp [oApp]
theorem oApp_nil (b : Option (List UInt8)) : oApp (some []) b = b := by cases b <;> simp [oApp]
theorem oApp_end (a : Option (List UInt8)) : oApp a (some []) = a := by cases a <;> simp [oApp]
theorem oApp_none (a : Option (List UInt8)) : oApp a none = none := by cases a <;> rfl
def tailT (op : Bool) : List UInt8 := if op then [32, 123, 10] else [59, 10]
def headR (r : RowD) : Option (List UInt8) :=
  if r.ws.length = 0 ∨ (r.op = true ∧ 32 ≤ r.deep) then none
  else match quotesT r.ws with
    | none => none
    | some qs => some (indT r.deep ++ Lib.join qs [32] ++ tailT r.op)
def prR : Nat → List RowD → Option (List UInt8)
  | d, [] => some (closesT d 0)
  | d, r :: rs => oApp (some (closesT d r.deep)) (oApp (headR r) (prR (if r.op then r.deep + 1 else r.deep) rs))
def headD : List RowD → Nat
  | [] => 0
  | r :: _ => r.deep
theorem closes_split : ∀ (e d z : Nat), z ≤ d → d ≤ e → closesT e z = closesT e d ++ closesT d z
  | 0, d, z, h1, h2 => by
    obtain rfl : d = 0 := by omega
    rfl
  | e + 1, d, z, h1, h2 => by
    by_cases h : d ≤ e
    · rw [closesT, if_pos (by omega), closesT, if_pos h, closes_split e d z h1 h]
      simp only [List.append_assoc]
    · obtain rfl : d = e + 1 := by omega
      have : closesT (e + 1) (e + 1) = [] := by rw [closesT, if_neg (by omega)]
      rw [this, List.nil_append]
theorem closes_self (d : Nat) : closesT d d = [] := by
  cases d with
  | zero => rfl
  | succ d => rw [closesT, if_neg (by omega)]
theorem closes_one (d : Nat) : closesT (d + 1) d = indT d ++ [125, 10] := by rw [closesT, if_pos (Nat.le_refl _), closes_self, List.append_nil]
theorem prR_close {e d : Nat} {B : List RowD} (h : headD B ≤ d) (hd : d ≤ e) : prR e B = oApp (some (closesT e d)) (prR d B) := by
  cases B with
  | nil => rw [prR, prR, closes_split e d 0 (Nat.zero_le _) hd]; rfl
  | cons r rs =>
    rw [prR, prR, closes_split e d r.deep h hd]
    rw [← oApp_assoc (some (closesT e d)) (some (closesT d r.deep))]
    rfl
/-- no statement without a block has Kids -/
def okK : Fo → Prop
  | .nil => True
  | .cons _ _ b K R => (b = false → K = .nil) ∧ okK K ∧ okK R
theorem okK_nodes : ∀ (n d : Nat) (A : List RowD), okK (nodesF n d A)
  | 0, _, _ => trivial
  | n + 1, _, [] => trivial
  | n + 1, d, r :: rs => by
    refine ⟨fun h => by rw [if_neg (by rw [h]; decide)], ?_, okK_nodes n d _⟩
    split
    · exact okK_nodes n _ _
    · trivial
theorem headD_app {F : Fo} {d : Nat} {B : List RowD} (h : headD B ≤ d) : headD (rowsF d F ++ B) ≤ d := by
  cases F with
  | nil => exact h
  | cons ws ps b K R => exact Nat.le_refl _
theorem print_rows : ∀ (F : Fo) (d e : Nat) (B : List RowD), okK F → d ≤ e → headD B ≤ d → prR e (rowsF d F ++ B) = oApp (some (closesT e d)) (oApp (writeF d F) (prR d B))
  | .nil, d, e, B, _, hde, hB => by
    rw [rowsF, List.nil_append, writeF, oApp_nil]
    exact prR_close hB hde
  | .cons ws ps b K R, d, e, B, hk, hde, hB => by
    obtain ⟨h1, h2, h3⟩ := hk
    rw [rowsF, List.cons_append, List.append_assoc, prR, writeF, headR]
    simp only
    congr 1
    cases b with
    | false =>
      obtain rfl := h1 rfl
      rw [rowsF, List.nil_append, show (if false = true then d + 1 else d) = d from if_neg (by decide), print_rows R d d B h3 (Nat.le_refl _) hB, closes_self, oApp_nil]
      by_cases hw : ws.length = 0
      · rw [if_pos (.inl hw), if_pos (.inl hw)]; rfl
      · rw [if_neg (by rintro (h | ⟨h, _⟩); exact hw h; cases h), if_neg (by rintro (h | ⟨_, h⟩ | ⟨h, _⟩); exact hw h; exact h rfl; cases h)]
        cases quotesT ws with
        | none => rfl
        | some qs =>
          rw [show tailT false = [59, 10] from rfl]
          simp only
          rw [if_neg (by decide)]
          cases writeF d R with
          | none => rfl
          | some r => cases prR d B <;> simp [oApp]
    | true =>
      rw [show (if true = true then d + 1 else d) = d + 1 from if_pos rfl, print_rows K (d + 1) (d + 1) (rowsF d R ++ B) h2 (Nat.le_refl _) (Nat.le_trans (headD_app hB) (Nat.le_succ _)), closes_self, oApp_nil, print_rows R d (d + 1) B h3 (Nat.le_succ _) hB, closes_one]
      by_cases hw : ws.length = 0 ∨ 32 ≤ d
      · rw [if_pos (by rcases hw with h | h; exact .inl h; exact .inr ⟨rfl, h⟩), if_pos (by rcases hw with h | h; exact .inl h; exact .inr (.inr ⟨rfl, h⟩))]
        rfl
      · rw [if_neg (by rintro (h | ⟨_, h⟩); exact hw (.inl h); exact hw (.inr h)), if_neg (by rintro (h | ⟨h, _⟩ | ⟨_, h⟩); exact hw (.inl h); cases h; exact hw (.inr h))]
        cases quotesT ws with
        | none => rfl
        | some qs =>
          rw [show tailT true = [32, 123, 10] from rfl]
          simp only
          rw [if_pos trivial]
          cases writeF (d + 1) K with
          | none => rfl
          | some k =>
            cases writeF d R with
            | none => rfl
            | some r => cases prR d B <;> simp [oApp]
theorem print_good (L : List RowI) : prR 0 (goodR 0 0 L) = writeF 0 (forG L) := by
  have h := print_rows (forG L) 0 0 [] (okK_nodes _ _ _) (Nat.le_refl _) (Nat.le_refl _)
  rw [List.append_nil, closes_self, oApp_nil] at h
  rw [show prR 0 [] = some [] from rfl, oApp_end] at h
  rw [← h]
  unfold forG
  rw [good_rows]
end Go.Proofs.Ytihmmmodimionaa.Tr
