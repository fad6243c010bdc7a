/- ListsDecide returns true for every input, and every argument reads afterwards as it read before; no condition. -/
import Derived.Test.YtopckpjhdbjmbaaJ
import Derived.Test.YtopckpjhdbjmbaaRows
import Derived.ProofKit
import Derived.OpenShut
import Derived.ShutString
import Derived.ChangeOld
import Derived.SizedLaws
import Derived.Deep.Slices
import Derived.Lib.SmallJoins
namespace Go.Proofs.Ytopckpjhdbjmbaa.Ld
open Go.ChangeShapes Go.WideShapes Go.ChangeAt Go.RowKit

theorem own : ownKnob Try.prog.godebug = none := by kernel_rfl
theorem laidOut : laidOutB Try.prog = true := by kernel_rfl
theorem cells44 : Try.prog.cellsOf 44 = 5 := by kernel_rfl
theorem cells46 : Try.prog.cellsOf 46 = 2 := by kernel_rfl
theorem cells26 : Try.prog.cellsOf 26 = 2 := by kernel_rfl
theorem cells24 : Try.prog.cellsOf 24 = 1 := by kernel_rfl
theorem cells23 : Try.prog.cellsOf 23 = 1 := by kernel_rfl
theorem cells28 : Try.prog.cellsOf 28 = 1 := by kernel_rfl
theorem cells3 : Try.prog.cellsOf 3 = 1 := by kernel_rfl
theorem cells4 : Try.prog.cellsOf 4 = 1 := by kernel_rfl
theorem bytes44 : Try.prog.bytesOf 44 = 40 := by kernel_rfl
theorem bytes46 : Try.prog.bytesOf 46 = 32 := by kernel_rfl
theorem bytes23 : Try.prog.bytesOf 23 = 4 := by kernel_rfl

theorem wf_u32 {x : Int} (h : (Lit.int .u32 x).wf = true) : 0 ≤ x ∧ x ≤ 4294967295 := by
  simpa [Lit.wf, IntKind.min, IntKind.max, IntKind.signed, IntKind.bits] using h

section
variable {H : Type} {enc : TypeId × Value → H} {w : World} {base : Nat} {spare : Nat → Bool} {held : Bool}
theorem open_pre {n : Nat} {cs : List Value} {x : DataW H × List MemPlace} (h : DataW.trod enc Try.prog w base spare held n 26 cs = some x) :
    ∃ a b, cs = [.int .u32 a, .int .i64 b] ∧ 0 ≤ a ∧ a ≤ 4294967295 := by
  obtain ⟨xs, m, _, _, hl, hxl, hf⟩ := DataW.trod_struct Try.underlying26 h
  rw [cells26] at hl
  match cs, hl with
  | [c0, c1], _ =>
    have g0 : DataW.trod enc Try.prog w base spare held m 24 ((List.drop 0 [c0, c1]).take (Try.prog.cellsOf 24)) = xs[0]? := hf 0 _ rfl
    rw [cells24] at g0
    change DataW.trod enc Try.prog w base spare held m 24 [c0] = _ at g0
    have g1 : DataW.trod enc Try.prog w base spare held m 3 ((List.drop 1 [c0, c1]).take (Try.prog.cellsOf 3)) = xs[1]? := hf 1 _ rfl
    rw [cells3] at g1
    change DataW.trod enc Try.prog w base spare held m 3 [c1] = _ at g1
    have l0 : 0 < xs.length := by rw [hxl]; decide
    have l1 : 1 < xs.length := by rw [hxl]; decide
    rw [List.getElem?_eq_getElem l0] at g0
    rw [List.getElem?_eq_getElem l1] at g1
    obtain ⟨a, e0, _, w0⟩ := DataW.trod_int Try.underlying24 g0
    obtain ⟨b, e1, _, _⟩ := DataW.trod_int Try.underlying3 g1
    simp only [List.cons.injEq, and_true] at e0 e1
    subst e0 e1
    exact ⟨a, b, rfl, wf_u32 w0⟩
theorem open_ent {n : Nat} {cs : List Value} {x : DataW H × List MemPlace} (h : DataW.trod enc Try.prog w base spare held n 44 cs = some x) :
    ∃ E : Ent, cs = [.bool E.pm, .int .u32 E.c, .int .i64 E.d, .int .i64 E.ge, .int .i64 E.le] ∧ 0 ≤ E.c ∧ E.c ≤ 4294967295 := by
  obtain ⟨xs, m, _, _, hl, hxl, hf⟩ := DataW.trod_struct Try.underlying44 h
  rw [cells44] at hl
  match cs, hl with
  | [c0, c1, c2, c3, c4], _ =>
    have g0 : DataW.trod enc Try.prog w base spare held m 4 ((List.drop 0 [c0, c1, c2, c3, c4]).take (Try.prog.cellsOf 4)) = xs[0]? := hf 0 _ rfl
    rw [cells4] at g0
    change DataW.trod enc Try.prog w base spare held m 4 [c0] = _ at g0
    have g1 : DataW.trod enc Try.prog w base spare held m 26 ((List.drop 1 [c0, c1, c2, c3, c4]).take (Try.prog.cellsOf 26)) = xs[1]? := hf 1 _ rfl
    rw [cells26] at g1
    change DataW.trod enc Try.prog w base spare held m 26 [c1, c2] = _ at g1
    have g2 : DataW.trod enc Try.prog w base spare held m 3 ((List.drop 3 [c0, c1, c2, c3, c4]).take (Try.prog.cellsOf 3)) = xs[2]? := hf 2 _ rfl
    rw [cells3] at g2
    change DataW.trod enc Try.prog w base spare held m 3 [c3] = _ at g2
    have g3 : DataW.trod enc Try.prog w base spare held m 3 ((List.drop 4 [c0, c1, c2, c3, c4]).take (Try.prog.cellsOf 3)) = xs[3]? := hf 3 _ rfl
    rw [cells3] at g3
    change DataW.trod enc Try.prog w base spare held m 3 [c4] = _ at g3
    have l0 : 0 < xs.length := by rw [hxl]; decide
    have l1 : 1 < xs.length := by rw [hxl]; decide
    have l2 : 2 < xs.length := by rw [hxl]; decide
    have l3 : 3 < xs.length := by rw [hxl]; decide
    rw [List.getElem?_eq_getElem l0] at g0
    rw [List.getElem?_eq_getElem l1] at g1
    rw [List.getElem?_eq_getElem l2] at g2
    rw [List.getElem?_eq_getElem l3] at g3
    obtain ⟨pm, e0, _⟩ := DataW.trod_bool Try.underlying4 g0
    obtain ⟨a, b, e1, ha, ha2⟩ := open_pre g1
    obtain ⟨ge, e2, _, _⟩ := DataW.trod_int Try.underlying3 g2
    obtain ⟨le, e3, _, _⟩ := DataW.trod_int Try.underlying3 g3
    simp only [List.cons.injEq, and_true] at e0 e1 e2 e3
    obtain ⟨e1, e1'⟩ := e1
    subst e0 e1 e1' e2 e3
    exact ⟨⟨pm, a, b, ge, le⟩, rfl, ha, ha2⟩
theorem open_us {n : Nat} {cs : List Value} {x : DataW H × List MemPlace} (h : DataW.trod enc Try.prog w base spare held n 28 cs = some x) :
    ∃ A k c z, cs = [.slice A k c] ∧ Us w A k z ∧ k ≤ maxLen ∧ Src w A k c 1 ((List.range (k * 1)).map fun j => .int .u32 (z j)) ∧ (k = 0 ∨ ∃ el sp, x.1 = .slice el sp ∧ el.length = k) := by
  rcases open_ints Try.underlying28 Try.underlying23 cells23 h with ⟨hcs, _⟩ | ⟨a, len, cap, zs, hcs, _, hl, hm, hz, hx, hcell, _⟩
  · exact ⟨none, 0, 0, fun _ => 0, hcs, fun i hi => by omega, by simp [maxLen], ⟨by simp, .inl ⟨rfl, rfl, rfl⟩⟩, .inl rfl⟩
  · have hlen : len ≤ zs.length := by rw [hz]; split <;> omega
    refine ⟨some a, len, cap, fun j => zs.getD j 0, hcs, fun i hi => ?_, by omega, ⟨by simp, .inr ⟨a, rfl, fun j u hu => ?_⟩⟩, .inr ⟨_, _, by rw [hx], by simp [lits]; omega⟩⟩
    · have hc := hcell i (by omega)
      have hs := World.cell?_spot hc
      obtain ⟨b, off, spot⟩ := a
      have : spot = none := by simpa [Addr.add] using World.cell?_spot (hcell 0 (by omega))
      subst this
      exact ⟨b, off, rfl, by rw [← add_plain]; exact hc⟩
    · have hj : j < len := by
        have := (List.getElem?_eq_some_iff.1 hu).1
        simpa using this
      have hu2 : u = .int .u32 (zs.getD j 0) := by
        rw [List.getElem?_map, List.getElem?_range (by omega)] at hu
        simpa using hu.symm
      rw [hu2]; exact hcell j (by omega)
theorem open_mem {n : Nat} {cs : List Value} {x : DataW H × List MemPlace} (h : DataW.trod enc Try.prog w base spare held n 46 cs = some x) :
    ∃ M : Mem, cs = [.bool M.pm, .slice M.A M.n M.c] ∧ Us w M.A M.n M.z ∧ M.n ≤ maxLen := by
  obtain ⟨xs, m, _, _, hl, hxl, hf⟩ := DataW.trod_struct Try.underlying46 h
  rw [cells46] at hl
  match cs, hl with
  | [c0, c1], _ =>
    have g0 : DataW.trod enc Try.prog w base spare held m 4 ((List.drop 0 [c0, c1]).take (Try.prog.cellsOf 4)) = xs[0]? := hf 0 _ rfl
    rw [cells4] at g0
    change DataW.trod enc Try.prog w base spare held m 4 [c0] = _ at g0
    have g1 : DataW.trod enc Try.prog w base spare held m 28 ((List.drop 1 [c0, c1]).take (Try.prog.cellsOf 28)) = xs[1]? := hf 1 _ rfl
    rw [cells28] at g1
    change DataW.trod enc Try.prog w base spare held m 28 [c1] = _ at g1
    have l0 : 0 < xs.length := by rw [hxl]; decide
    have l1 : 1 < xs.length := by rw [hxl]; decide
    rw [List.getElem?_eq_getElem l0] at g0
    rw [List.getElem?_eq_getElem l1] at g1
    obtain ⟨pm, e0, _⟩ := DataW.trod_bool Try.underlying4 g0
    obtain ⟨A, k, c, z, e1, hU, hk, _, _⟩ := open_us g1
    simp only [List.cons.injEq, and_true] at e0 e1
    subst e0 e1
    exact ⟨⟨pm, A, k, c, z⟩, rfl, hU, hk⟩

theorem open_ents {fuel : Nat} {cs : List Value} {x : DataW H × List MemPlace} (h : DataW.trod enc Try.prog w 0 (fun _ => true) held fuel 22 cs = some x) :
    ∃ A k c f E, cs = [.slice A k c] ∧ Src w A k c 5 ((List.range (k * 5)).map f) ∧ (∀ j, j < k * 5 → (f j).oneCell' = true) ∧ EntF f k E ∧ (k = 0 ∨ ∃ el sp, x.1 = .slice el sp ∧ el.length = k) := by
  rcases Go.Deep.open_slice Try.underlying22 h with ⟨hcs, _⟩ | ⟨a, len, cap, m, n, D, Pl, hcs, _, hl, hm, hmm, hx, hi⟩
  · exact ⟨none, 0, 0, fun _ => .nilIface, fun _ => ⟨false, 0, 0, 0, 0⟩, hcs, ⟨by simp, .inl ⟨rfl, rfl, rfl⟩⟩, fun j hj => by omega, fun i hi => by omega, .inl rfl⟩
  · simp only [if_true] at hmm
    have hall : ∀ i, i < len → ∃ E : Ent, (∀ j, j < 5 → w.cell? (a.add (i * 5 + j)) = [Value.bool E.pm, .int .u32 E.c, .int .i64 E.d, .int .i64 E.ge, .int .i64 E.le][j]?) ∧ 0 ≤ E.c ∧ E.c ≤ 4294967295 := by
      intro i hil
      obtain ⟨cs', hc, ht⟩ := hi i (by omega)
      rw [cells44] at hc
      obtain ⟨_, hlen, hat⟩ := World.cells?_some hc
      obtain ⟨E, rfl, hb⟩ := open_ent ht
      exact ⟨E, fun j hj => by rw [← Go.Deep.add_add]; exact hat j hj, hb⟩
    obtain ⟨E, hE⟩ : ∃ E : Nat → Ent, ∀ i, i < len → (∀ j, j < 5 → w.cell? (a.add (i * 5 + j)) = [Value.bool (E i).pm, .int .u32 (E i).c, .int .i64 (E i).d, .int .i64 (E i).ge, .int .i64 (E i).le][j]?) ∧ 0 ≤ (E i).c ∧ (E i).c ≤ 4294967295 := by
      classical
      refine ⟨fun i => if hi : i < len then Classical.choose (hall i hi) else ⟨false, 0, 0, 0, 0⟩, fun i hi => ?_⟩
      simp only [dif_pos hi]
      exact Classical.choose_spec (hall i hi)
    let f : Nat → Value := fun j => [Value.bool (E (j / 5)).pm, .int .u32 (E (j / 5)).c, .int .i64 (E (j / 5)).d, .int .i64 (E (j / 5)).ge, .int .i64 (E (j / 5)).le].getD (j % 5) .nilIface
    have hf : ∀ j, j < len * 5 → w.cell? (a.add j) = some (f j) := by
      intro j hj
      have h1 := (hE (j / 5) (by omega)).1 (j % 5) (Nat.mod_lt _ (by omega))
      rw [show j / 5 * 5 + j % 5 = j by omega] at h1
      rw [h1]
      have h2 : j % 5 < 5 := Nat.mod_lt _ (by omega)
      simp only [f, List.getD_eq_getElem?_getD]
      rw [List.getElem?_eq_getElem (by simpa using h2)]
      rfl
    refine ⟨some a, len, cap, f, E, hcs, ⟨by simp, .inr ⟨a, rfl, fun j u hu => ?_⟩⟩, fun j hj => ?_, fun i hil => ?_, .inr ⟨_, _, by rw [hx], by simp⟩⟩
    · have hj : j < len * 5 := by
        have := (List.getElem?_eq_some_iff.1 hu).1
        simpa using this
      rw [List.getElem?_map, List.getElem?_range hj] at hu
      rw [hf j hj]; exact hu
    · have h2 : j % 5 < 5 := Nat.mod_lt _ (by omega)
      show (f j).oneCell' = true
      simp only [f]
      match j % 5, h2 with
      | 0, _ => rfl
      | 1, _ => rfl
      | 2, _ => rfl
      | 3, _ => rfl
      | 4, _ => rfl
    · refine ⟨?_, ?_, ?_, ?_, ?_, (hE i hil).2⟩ <;> simp only [f]
      · rw [show i * 5 / 5 = i by omega, show i * 5 % 5 = 0 by omega]; rfl
      · rw [show (i * 5 + 1) / 5 = i by omega, show (i * 5 + 1) % 5 = 1 by omega]; rfl
      · rw [show (i * 5 + 2) / 5 = i by omega, show (i * 5 + 2) % 5 = 2 by omega]; rfl
      · rw [show (i * 5 + 3) / 5 = i by omega, show (i * 5 + 3) % 5 = 3 by omega]; rfl
      · rw [show (i * 5 + 4) / 5 = i by omega, show (i * 5 + 4) % 5 = 4 by omega]; rfl
theorem open_mems {fuel : Nat} {cs : List Value} {x : DataW H × List MemPlace} (h : DataW.trod enc Try.prog w 0 (fun _ => true) held fuel 27 cs = some x) :
    ∃ A k c f M, cs = [.slice A k c] ∧ Src w A k c 2 ((List.range (k * 2)).map f) ∧ (∀ j, j < k * 2 → (f j).oneCell' = true) ∧ MemF w f k M ∧ (k = 0 ∨ ∃ el sp, x.1 = .slice el sp ∧ el.length = k) := by
  rcases Go.Deep.open_slice Try.underlying27 h with ⟨hcs, _⟩ | ⟨a, len, cap, m, n, D, Pl, hcs, _, hl, hm, hmm, hx, hi⟩
  · exact ⟨none, 0, 0, fun _ => .nilIface, fun _ => ⟨false, none, 0, 0, fun _ => 0⟩, hcs, ⟨by simp, .inl ⟨rfl, rfl, rfl⟩⟩, fun j hj => by omega, fun i hi => by omega, .inl rfl⟩
  · simp only [if_true] at hmm
    have hall : ∀ i, i < len → ∃ E : Mem, (∀ j, j < 2 → w.cell? (a.add (i * 2 + j)) = [Value.bool E.pm, .slice E.A E.n E.c][j]?) ∧ Us w E.A E.n E.z ∧ E.n ≤ maxLen := by
      intro i hil
      obtain ⟨cs', hc, ht⟩ := hi i (by omega)
      rw [cells46] at hc
      obtain ⟨_, hlen, hat⟩ := World.cells?_some hc
      obtain ⟨E, rfl, hb⟩ := open_mem ht
      exact ⟨E, fun j hj => by rw [← Go.Deep.add_add]; exact hat j hj, hb⟩
    obtain ⟨E, hE⟩ : ∃ E : Nat → Mem, ∀ i, i < len → (∀ j, j < 2 → w.cell? (a.add (i * 2 + j)) = [Value.bool (E i).pm, .slice (E i).A (E i).n (E i).c][j]?) ∧ Us w (E i).A (E i).n (E i).z ∧ (E i).n ≤ maxLen := by
      classical
      refine ⟨fun i => if hi : i < len then Classical.choose (hall i hi) else ⟨false, none, 0, 0, fun _ => 0⟩, fun i hi => ?_⟩
      simp only [dif_pos hi]
      exact Classical.choose_spec (hall i hi)
    let f : Nat → Value := fun j => [Value.bool (E (j / 2)).pm, .slice (E (j / 2)).A (E (j / 2)).n (E (j / 2)).c].getD (j % 2) .nilIface
    have hf : ∀ j, j < len * 2 → w.cell? (a.add j) = some (f j) := by
      intro j hj
      have h1 := (hE (j / 2) (by omega)).1 (j % 2) (Nat.mod_lt _ (by omega))
      rw [show j / 2 * 2 + j % 2 = j by omega] at h1
      rw [h1]
      have h2 : j % 2 < 2 := Nat.mod_lt _ (by omega)
      simp only [f, List.getD_eq_getElem?_getD]
      rw [List.getElem?_eq_getElem (by simpa using h2)]
      rfl
    refine ⟨some a, len, cap, f, E, hcs, ⟨by simp, .inr ⟨a, rfl, fun j u hu => ?_⟩⟩, fun j hj => ?_, fun i hil => ?_, .inr ⟨_, _, by rw [hx], by simp⟩⟩
    · have hj : j < len * 2 := by
        have := (List.getElem?_eq_some_iff.1 hu).1
        simpa using this
      rw [List.getElem?_map, List.getElem?_range hj] at hu
      rw [hf j hj]; exact hu
    · have h2 : j % 2 < 2 := Nat.mod_lt _ (by omega)
      show (f j).oneCell' = true
      simp only [f]
      match j % 2, h2 with
      | 0, _ => rfl
      | 1, _ => rfl
    · refine ⟨?_, ?_, (hE i hil).2⟩ <;> simp only [f]
      · rw [show i * 2 / 2 = i by omega, show i * 2 % 2 = 0 by omega]; rfl
      · rw [show (i * 2 + 1) / 2 = i by omega, show (i * 2 + 1) % 2 = 1 by omega]; rfl
end

set_option maxRecDepth 100000 in
theorem lifted (os : Os) (started : os.Started) (H : Type) (enc : TypeId × Value → H) :
    ReturnsInHanded {} Try.checked os 3 .any (Rows.listsDecideSpec.pre6 enc Try.prog Try.f3 Rows.listsDecideRow.domain false) (Rows.listsDecideSpec.post enc Try.prog Try.f3 false true false false) := by
  refine returnsInHanded_of_change_sized (C := Try.checked) own started (by kernel_rfl) Try.func3
    (ChangeSpec.witness6 (enc := enc) (C := Try.checked) false ⟨#[], #[.slice none 0 0, .agg #[.int .u32 0, .int .i64 0], .slice none 0 0, .slice none 0 0, .int .i64 0], []⟩ 8 (by kernel_rfl) (by kernel_rfl) (by kernel_rfl) (by kernel_rfl)) ?_
  intro W base args ds gs before hval0 hW _ hsz0 _
  have hval : ∀ (j : Nat) t v, Try.f3.params[j]? = some t → args[j]? = some v → Value.okWide Try.prog W .any base t v := hval0
  have hsz : (DataW.weightsEach Try.prog (Try.f3.params.toList ++ Rows.listsDecideSpec.plain.varTypes Try.prog) (ds ++ gs)).all (· ≤ reachBytes) = true := hsz0
  have hW' := hW
  obtain ⟨p, q, hA0, hV, rfl, hfz, hnd⟩ := hW
  have hA : DataW.TrodAll enc Try.prog W 0 (fun _ => true) true Try.f3.params.toList args.toList ds p := hA0
  rw [Try.params3] at hA hval hsz
  obtain ⟨v0, vs0, d0, ds0, p0, q0, hargs, rfl, rfl, h0, r0⟩ := trodAll_cons hA
  obtain ⟨v1, vs1, d1, ds1, p1, q1, rfl, rfl, rfl, h1, r1⟩ := trodAll_cons r0
  obtain ⟨v2, vs2, d2, ds2, p2, q2, rfl, rfl, rfl, h2, r2⟩ := trodAll_cons r1
  obtain ⟨v3, vs3, d3, ds3, p3, q3, rfl, rfl, rfl, h3, r3⟩ := trodAll_cons r2
  obtain ⟨v4, vs4, d4, ds4, p4, q4, rfl, rfl, rfl, h4, r4⟩ := trodAll_cons r3
  obtain ⟨rfl, rfl, rfl⟩ := trodAll_nil r4
  obtain rfl : args = #[v0, v1, v2, v3, v4] := by cases args; simp_all
  obtain ⟨rfl, rfl⟩ := trodVars_none hV
  have lt0 : ∀ x ∈ p0, x.block < W.heap.size := by obtain ⟨m, hm⟩ := h0; exact DataW.trod_lt m _ _ _ hm
  have lt1 : ∀ x ∈ p1, x.block < W.heap.size := by obtain ⟨m, hm⟩ := h1; exact DataW.trod_lt m _ _ _ hm
  have lt2 : ∀ x ∈ p2, x.block < W.heap.size := by obtain ⟨m, hm⟩ := h2; exact DataW.trod_lt m _ _ _ hm
  have lt3 : ∀ x ∈ p3, x.block < W.heap.size := by obtain ⟨m, hm⟩ := h3; exact DataW.trod_lt m _ _ _ hm
  have lt4 : ∀ x ∈ p4, x.block < W.heap.size := by obtain ⟨m, hm⟩ := h4; exact DataW.trod_lt m _ _ _ hm
  have k0 := h0
  have k1 := h1
  have k2 := h2
  have k3 := h3
  have k4 := h4
  obtain ⟨a0, len0, cap0, rfl⟩ := okWide_slice Try.underlying22 (hval 0 22 v0 rfl rfl)
  obtain ⟨cs1, rfl, _⟩ := okWide_struct Try.underlying26 (hval 1 26 v1 rfl rfl)
  obtain ⟨a2, len2, cap2, rfl⟩ := okWide_slice Try.underlying27 (hval 2 27 v2 rfl rfl)
  obtain ⟨a3, len3, cap3, rfl⟩ := okWide_slice Try.underlying28 (hval 3 28 v3 rfl rfl)
  obtain ⟨i4, rfl, rfl, rfl, _⟩ := open_int Try.underlying3 (hval 4 3 v4 rfl rfl) h4
  obtain ⟨m0, g0⟩ := h0
  obtain ⟨m1, g1⟩ := h1
  obtain ⟨m2, g2⟩ := h2
  obtain ⟨m3, g3⟩ := h3
  obtain ⟨A1, n1, c1, f1, E, e0, s1, o1, hE, hr1⟩ := open_ents g0
  obtain ⟨a, b, e1, ha, ha2⟩ := open_pre g1
  obtain ⟨A2, n2, c2, f2, M, e2, s2, o2, hM, hr2⟩ := open_mems g2
  obtain ⟨A3, n3, c3, z, e3, hz, hn3, s3, hr3⟩ := open_us g3
  simp [Value.cells] at e0 e2 e3
  obtain ⟨rfl, rfl, rfl⟩ := e0
  obtain ⟨rfl, rfl, rfl⟩ := e2
  obtain ⟨rfl, rfl, rfl⟩ := e3
  obtain rfl : cs1 = #[.int .u32 a, .int .i64 b] := by
    simp [Value.cells] at e1
    cases cs1; simp_all
  have b0 : len0 * 40 ≤ 140737488351232 := by
    rcases hr1 with h | ⟨el, sp, hx, hl⟩
    · omega
    · have hx' : d0 = .slice el sp := hx
      have := sized_slice hsz (j := 0) (t := 22) (e := 44) rfl (by rw [hx']; rfl) Try.underlying22
      rw [bytes44] at this
      simp only [reachBytes] at this
      omega
  have b2 : len2 * 32 ≤ 140737488351232 := by
    rcases hr2 with h | ⟨el, sp, hx, hl⟩
    · omega
    · have hx' : d2 = .slice el sp := hx
      have := sized_slice hsz (j := 2) (t := 27) (e := 46) rfl (by rw [hx']; rfl) Try.underlying27
      rw [bytes46] at this
      simp only [reachBytes] at this
      omega
  have b3 : len3 * 4 ≤ 140737488351232 := by
    rcases hr3 with h | ⟨el, sp, hx, hl⟩
    · omega
    · have hx' : d3 = .slice el sp := hx
      have := sized_slice hsz (j := 3) (t := 28) (e := 23) rfl (by rw [hx']; rfl) Try.underlying28
      rw [bytes23] at this
      simp only [reachBytes] at this
      omega
  clear hA0 hval0 hsz hsz0 g0 g1 g2 g3
  refine (law_any a0 len0 cap0 f1 E a b a2 len2 cap2 f2 M a3 len3 cap3 z i4 W ha ha2 b0 b2 b3 s1 o1 hE s2 o2 hM s3 hz).mono fun e W' ⟨he, bel⟩ => ?_
  subst he
  exact ⟨_, rfl, _, _, _, [], _, [], hW', trodAll_mk1 (shut_bool Try.underlying4 _),
    (trodAll_cons_mk (Below.trod laidOut (by kernel_rfl) (of_decide_eq_true (by kernel_rfl)) k0 bel lt0)
      (trodAll_cons_mk (Below.trod laidOut (by kernel_rfl) (of_decide_eq_true (by kernel_rfl)) k1 bel lt1)
        (trodAll_cons_mk (Below.trod laidOut (by kernel_rfl) (of_decide_eq_true (by kernel_rfl)) k2 bel lt2)
          (trodAll_cons_mk (Below.trod laidOut (by kernel_rfl) (of_decide_eq_true (by kernel_rfl)) k3 bel lt3)
            (trodAll_cons_mk (Below.trod laidOut (by kernel_rfl) (of_decide_eq_true (by kernel_rfl)) k4 bel lt4) trodAll_mk0))))), rfl, bel.frame _, fun h => by cases h⟩

theorem holds : Rows.ListsDecideSaid :=
  OpenClaim.holds_of_wide 3 Try.f3 rfl rfl rfl rfl rfl rfl rfl ⟨rfl, rfl, rfl, rfl, rfl⟩ rfl rfl rfl rfl rfl (by kernel_rfl) Try.func3 (by kernel_rfl)
    (of_decide_eq_true (by kernel_rfl)) (by unfold Func.isWrapper; first | (rw [if_pos (by decide +kernel)]; kernel_rfl) | (rw [if_neg (by decide +kernel)]; exact ⟨rfl, rfl⟩))
    (fun os started H enc _ => lifted os started H enc)
#print axioms holds
end Go.Proofs.Ytopckpjhdbjmbaa.Ld
