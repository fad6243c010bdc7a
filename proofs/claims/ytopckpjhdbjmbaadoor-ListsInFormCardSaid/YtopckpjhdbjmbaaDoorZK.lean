/- What the arguments of the statements on lists read as; what the bound on their bulk gives. -/
import Derived.Test.YtopckpjhdbjmbaaDoorZX
import Derived.Test.YtopckpjhdbjmbaaDoorZD
import Derived.Test.YtopckpjhdbjmbaaDoorRows
import Derived.ProofKit
import Derived.OpenShut
import Derived.ShutString
import Derived.ChangeMaps5
import Derived.LaidMore
import Derived.Lay
import Derived.SevenTiedAt
import Derived.Stop.LaidErr
import Derived.Stop.Joined
import Derived.SizedLaws
import Derived.RowKitTokens
import Derived.Deep.Slices
import Derived.Deep.DeepHandedRow
namespace Go.Proofs.YtopckpjhdbjmbaaDoor.Ld
open Go.ChangeShapes Go.WideShapes Go.ChangeAt Go.RowKit Go.Proofs.YtopckpjhdbjmbaaDoor.Lx

def EntF (f : Nat → Value) (n : Nat) (E : Nat → Ent) : Prop := ∀ i, i < n → f (i * 5) = .bool (E i).pm ∧ f (i * 5 + 1) = .int .u32 (E i).c ∧ f (i * 5 + 2) = .int .i64 (E i).d ∧ f (i * 5 + 3) = .int .i64 (E i).ge ∧ f (i * 5 + 4) = .int .i64 (E i).le ∧ 0 ≤ (E i).c ∧ (E i).c ≤ 4294967295

def MemF (w : World) (f : Nat → Value) (n : Nat) (M : Nat → Mem) : Prop := ∀ i, i < n → f (i * 2) = .bool (M i).pm ∧ f (i * 2 + 1) = .slice (M i).A (M i).n (M i).c ∧ Us w (M i).A (M i).n (M i).z ∧ (M i).n ≤ maxLen

theorem ownL : ownKnob Tryd.prog.godebug = none := by kernel_rfl
theorem laidOutL : laidOutB Tryd.prog = true := by kernel_rfl
theorem cellsTapi_Entry : Tryd.prog.cellsOf 44 = 5 := by kernel_rfl
theorem cellsTapi_Member : Tryd.prog.cellsOf 50 = 2 := by kernel_rfl
theorem cellsTapi_Prefix : Tryd.prog.cellsOf 35 = 2 := by kernel_rfl
theorem cellsTapi_Addr : Tryd.prog.cellsOf 33 = 1 := by kernel_rfl
theorem cellsTuint32 : Tryd.prog.cellsOf 23 = 1 := by kernel_rfl
theorem cellsTSuint32 : Tryd.prog.cellsOf 22 = 1 := by kernel_rfl
theorem cellsTint : Tryd.prog.cellsOf 3 = 1 := by kernel_rfl
theorem cellsTbool : Tryd.prog.cellsOf 4 = 1 := by kernel_rfl
theorem bytesTapi_Entry : Tryd.prog.bytesOf 44 = 40 := by kernel_rfl
theorem bytesTapi_Member : Tryd.prog.bytesOf 50 = 32 := by kernel_rfl
theorem bytesTuint32 : Tryd.prog.bytesOf 23 = 4 := by kernel_rfl

theorem wf_u32 {x : Int} (h : (Lit.int .u32 x).wf = true) : 0 ≤ x ∧ x ≤ 4294967295 := by
  simpa [Lit.wf, IntKind.min, IntKind.max, IntKind.signed, IntKind.bits] using h

section
variable {H : Type} {enc : TypeId × Value → H} {w : World} {base : Nat} {spare : Nat → Bool} {held : Bool}
set_option maxRecDepth 100000 in
theorem open_pre {n : Nat} {cs : List Value} {x : DataW H × List MemPlace} (h : DataW.trod enc Tryd.prog w base spare held n 35 cs = some x) :
    ∃ a b, cs = [.int .u32 a, .int .i64 b] ∧ 0 ≤ a ∧ a ≤ 4294967295 := by
  obtain ⟨xs, m, _, _, hl, hxl, hf⟩ := DataW.trod_struct Tryd.underlying35 h
  rw [cellsTapi_Prefix] at hl
  match cs, hl with
  | [c0, c1], _ =>
    have g0 : DataW.trod enc Tryd.prog w base spare held m 33 ((List.drop 0 [c0, c1]).take (Tryd.prog.cellsOf 33)) = xs[0]? := hf 0 _ rfl
    rw [cellsTapi_Addr] at g0
    change DataW.trod enc Tryd.prog w base spare held m 33 [c0] = _ at g0
    have g1 : DataW.trod enc Tryd.prog w base spare held m 3 ((List.drop 1 [c0, c1]).take (Tryd.prog.cellsOf 3)) = xs[1]? := hf 1 _ rfl
    rw [cellsTint] at g1
    change DataW.trod enc Tryd.prog w base spare held m 3 [c1] = _ at g1
    have l0 : 0 < xs.length := by rw [hxl]; decide
    have l1 : 1 < xs.length := by rw [hxl]; decide
    rw [List.getElem?_eq_getElem l0] at g0
    rw [List.getElem?_eq_getElem l1] at g1
    obtain ⟨a, e0, _, w0⟩ := DataW.trod_int Tryd.underlying33 g0
    obtain ⟨b, e1, _, _⟩ := DataW.trod_int Tryd.underlying3 g1
    simp only [List.cons.injEq, and_true] at e0 e1
    subst e0 e1
    exact ⟨a, b, rfl, wf_u32 w0⟩
set_option maxRecDepth 100000 in
theorem open_ent {n : Nat} {cs : List Value} {x : DataW H × List MemPlace} (h : DataW.trod enc Tryd.prog w base spare held n 44 cs = some x) :
    ∃ E : Ent, cs = [.bool E.pm, .int .u32 E.c, .int .i64 E.d, .int .i64 E.ge, .int .i64 E.le] ∧ 0 ≤ E.c ∧ E.c ≤ 4294967295 := by
  obtain ⟨xs, m, _, _, hl, hxl, hf⟩ := DataW.trod_struct Tryd.underlying44 h
  rw [cellsTapi_Entry] at hl
  match cs, hl with
  | [c0, c1, c2, c3, c4], _ =>
    have g0 : DataW.trod enc Tryd.prog w base spare held m 4 ((List.drop 0 [c0, c1, c2, c3, c4]).take (Tryd.prog.cellsOf 4)) = xs[0]? := hf 0 _ rfl
    rw [cellsTbool] at g0
    change DataW.trod enc Tryd.prog w base spare held m 4 [c0] = _ at g0
    have g1 : DataW.trod enc Tryd.prog w base spare held m 35 ((List.drop 1 [c0, c1, c2, c3, c4]).take (Tryd.prog.cellsOf 35)) = xs[1]? := hf 1 _ rfl
    rw [cellsTapi_Prefix] at g1
    change DataW.trod enc Tryd.prog w base spare held m 35 [c1, c2] = _ at g1
    have g2 : DataW.trod enc Tryd.prog w base spare held m 3 ((List.drop 3 [c0, c1, c2, c3, c4]).take (Tryd.prog.cellsOf 3)) = xs[2]? := hf 2 _ rfl
    rw [cellsTint] at g2
    change DataW.trod enc Tryd.prog w base spare held m 3 [c3] = _ at g2
    have g3 : DataW.trod enc Tryd.prog w base spare held m 3 ((List.drop 4 [c0, c1, c2, c3, c4]).take (Tryd.prog.cellsOf 3)) = xs[3]? := hf 3 _ rfl
    rw [cellsTint] at g3
    change DataW.trod enc Tryd.prog w base spare held m 3 [c4] = _ at g3
    have l0 : 0 < xs.length := by rw [hxl]; decide
    have l1 : 1 < xs.length := by rw [hxl]; decide
    have l2 : 2 < xs.length := by rw [hxl]; decide
    have l3 : 3 < xs.length := by rw [hxl]; decide
    rw [List.getElem?_eq_getElem l0] at g0
    rw [List.getElem?_eq_getElem l1] at g1
    rw [List.getElem?_eq_getElem l2] at g2
    rw [List.getElem?_eq_getElem l3] at g3
    obtain ⟨pm, e0, _⟩ := DataW.trod_bool Tryd.underlying4 g0
    obtain ⟨a, b, e1, ha, ha2⟩ := open_pre g1
    obtain ⟨ge, e2, _, _⟩ := DataW.trod_int Tryd.underlying3 g2
    obtain ⟨le, e3, _, _⟩ := DataW.trod_int Tryd.underlying3 g3
    simp only [List.cons.injEq, and_true] at e0 e1 e2 e3
    obtain ⟨e1, e1'⟩ := e1
    subst e0 e1 e1' e2 e3
    exact ⟨⟨pm, a, b, ge, le⟩, rfl, ha, ha2⟩
theorem open_us {n : Nat} {cs : List Value} {x : DataW H × List MemPlace} (h : DataW.trod enc Tryd.prog w base spare held n 22 cs = some x) :
    ∃ A k c z, cs = [.slice A k c] ∧ Us w A k z ∧ k ≤ maxLen ∧ Src w A k c 1 ((List.range (k * 1)).map fun j => .int .u32 (z j)) ∧ (k = 0 ∨ ∃ el sp, x.1 = .slice el sp ∧ el.length = k) := by
  rcases open_ints Tryd.underlying22 Tryd.underlying23 cellsTuint32 h with ⟨hcs, _⟩ | ⟨a, len, cap, zs, hcs, _, hl, hm, hz, hx, hcell, _⟩
  · exact ⟨none, 0, 0, fun _ => 0, hcs, fun i hi => by omega, by simp [maxLen], ⟨by simp, .inl ⟨rfl, rfl, rfl⟩⟩, .inl rfl⟩
  · have hlen : len ≤ zs.length := by rw [hz]; split <;> omega
    refine ⟨some a, len, cap, fun j => zs.getD j 0, hcs, fun i hi => ?_, by omega, ⟨by simp, .inr ⟨a, rfl, fun j u hu => ?_⟩⟩, .inr ⟨_, _, by rw [hx], by simp [lits]; omega⟩⟩
    · have hc := hcell i (by omega)
      have hs := World.cell?_spot hc
      obtain ⟨b, off, spot⟩ := a
      have : spot = none := by simpa [Addr.add] using World.cell?_spot (hcell 0 (by omega))
      subst this
      exact ⟨b, off, rfl, by rw [← add_plain]; exact hc⟩
    · have hj : j < len := by
        have := (List.getElem?_eq_some_iff.1 hu).1
        simpa using this
      have hu2 : u = .int .u32 (zs.getD j 0) := by
        rw [List.getElem?_map, List.getElem?_range (by omega)] at hu
        simpa using hu.symm
      rw [hu2]; exact hcell j (by omega)
set_option maxRecDepth 100000 in
theorem open_mem {n : Nat} {cs : List Value} {x : DataW H × List MemPlace} (h : DataW.trod enc Tryd.prog w base spare held n 50 cs = some x) :
    ∃ M : Mem, cs = [.bool M.pm, .slice M.A M.n M.c] ∧ Us w M.A M.n M.z ∧ M.n ≤ maxLen := by
  obtain ⟨xs, m, _, _, hl, hxl, hf⟩ := DataW.trod_struct Tryd.underlying50 h
  rw [cellsTapi_Member] at hl
  match cs, hl with
  | [c0, c1], _ =>
    have g0 : DataW.trod enc Tryd.prog w base spare held m 4 ((List.drop 0 [c0, c1]).take (Tryd.prog.cellsOf 4)) = xs[0]? := hf 0 _ rfl
    rw [cellsTbool] at g0
    change DataW.trod enc Tryd.prog w base spare held m 4 [c0] = _ at g0
    have g1 : DataW.trod enc Tryd.prog w base spare held m 22 ((List.drop 1 [c0, c1]).take (Tryd.prog.cellsOf 22)) = xs[1]? := hf 1 _ rfl
    rw [cellsTSuint32] at g1
    change DataW.trod enc Tryd.prog w base spare held m 22 [c1] = _ at g1
    have l0 : 0 < xs.length := by rw [hxl]; decide
    have l1 : 1 < xs.length := by rw [hxl]; decide
    rw [List.getElem?_eq_getElem l0] at g0
    rw [List.getElem?_eq_getElem l1] at g1
    obtain ⟨pm, e0, _⟩ := DataW.trod_bool Tryd.underlying4 g0
    obtain ⟨A, k, c, z, e1, hU, hk, _, _⟩ := open_us g1
    simp only [List.cons.injEq, and_true] at e0 e1
    subst e0 e1
    exact ⟨⟨pm, A, k, c, z⟩, rfl, hU, hk⟩

theorem open_ents {fuel : Nat} {cs : List Value} {x : DataW H × List MemPlace} (h : DataW.trod enc Tryd.prog w 0 (fun _ => true) held fuel 32 cs = some x) :
    ∃ A k c f E, cs = [.slice A k c] ∧ Src w A k c 5 ((List.range (k * 5)).map f) ∧ (∀ j, j < k * 5 → (f j).oneCell' = true) ∧ EntF f k E ∧ (k = 0 ∨ ∃ el sp, x.1 = .slice el sp ∧ el.length = k) := by
  rcases Go.Deep.open_slice Tryd.underlying32 h with ⟨hcs, _⟩ | ⟨a, len, cap, m, n, D, Pl, hcs, _, hl, hm, hmm, hx, hi⟩
  · exact ⟨none, 0, 0, fun _ => .nilIface, fun _ => ⟨false, 0, 0, 0, 0⟩, hcs, ⟨by simp, .inl ⟨rfl, rfl, rfl⟩⟩, fun j hj => by omega, fun i hi => by omega, .inl rfl⟩
  · simp only [if_true] at hmm
    have hall : ∀ i, i < len → ∃ E : Ent, (∀ j, j < 5 → w.cell? (a.add (i * 5 + j)) = [Value.bool E.pm, .int .u32 E.c, .int .i64 E.d, .int .i64 E.ge, .int .i64 E.le][j]?) ∧ 0 ≤ E.c ∧ E.c ≤ 4294967295 := by
      intro i hil
      obtain ⟨cs', hc, ht⟩ := hi i (by omega)
      rw [cellsTapi_Entry] at hc
      obtain ⟨_, hlen, hat⟩ := World.cells?_some hc
      obtain ⟨E, rfl, hb⟩ := open_ent ht
      exact ⟨E, fun j hj => by rw [← Go.Deep.add_add]; exact hat j hj, hb⟩
    obtain ⟨E, hE⟩ : ∃ E : Nat → Ent, ∀ i, i < len → (∀ j, j < 5 → w.cell? (a.add (i * 5 + j)) = [Value.bool (E i).pm, .int .u32 (E i).c, .int .i64 (E i).d, .int .i64 (E i).ge, .int .i64 (E i).le][j]?) ∧ 0 ≤ (E i).c ∧ (E i).c ≤ 4294967295 := by
      classical
      refine ⟨fun i => if hi : i < len then Classical.choose (hall i hi) else ⟨false, 0, 0, 0, 0⟩, fun i hi => ?_⟩
      simp only [dif_pos hi]
      exact Classical.choose_spec (hall i hi)
    let f : Nat → Value := fun j => [Value.bool (E (j / 5)).pm, .int .u32 (E (j / 5)).c, .int .i64 (E (j / 5)).d, .int .i64 (E (j / 5)).ge, .int .i64 (E (j / 5)).le].getD (j % 5) .nilIface
    have hf : ∀ j, j < len * 5 → w.cell? (a.add j) = some (f j) := by
      intro j hj
      have h1 := (hE (j / 5) (by omega)).1 (j % 5) (Nat.mod_lt _ (by omega))
      rw [show j / 5 * 5 + j % 5 = j by omega] at h1
      rw [h1]
      have h2 : j % 5 < 5 := Nat.mod_lt _ (by omega)
      simp only [f, List.getD_eq_getElem?_getD]
      rw [List.getElem?_eq_getElem (by simpa using h2)]
      rfl
    refine ⟨some a, len, cap, f, E, hcs, ⟨by simp, .inr ⟨a, rfl, fun j u hu => ?_⟩⟩, fun j hj => ?_, fun i hil => ?_, .inr ⟨_, _, by rw [hx], by simp⟩⟩
    · have hj : j < len * 5 := by
        have := (List.getElem?_eq_some_iff.1 hu).1
        simpa using this
      rw [List.getElem?_map, List.getElem?_range hj] at hu
      rw [hf j hj]; exact hu
    · have h2 : j % 5 < 5 := Nat.mod_lt _ (by omega)
      show (f j).oneCell' = true
      simp only [f]
      match j % 5, h2 with
      | 0, _ => rfl
      | 1, _ => rfl
      | 2, _ => rfl
      | 3, _ => rfl
      | 4, _ => rfl
    · refine ⟨?_, ?_, ?_, ?_, ?_, (hE i hil).2⟩ <;> simp only [f]
      · rw [show i * 5 / 5 = i by omega, show i * 5 % 5 = 0 by omega]; rfl
      · rw [show (i * 5 + 1) / 5 = i by omega, show (i * 5 + 1) % 5 = 1 by omega]; rfl
      · rw [show (i * 5 + 2) / 5 = i by omega, show (i * 5 + 2) % 5 = 2 by omega]; rfl
      · rw [show (i * 5 + 3) / 5 = i by omega, show (i * 5 + 3) % 5 = 3 by omega]; rfl
      · rw [show (i * 5 + 4) / 5 = i by omega, show (i * 5 + 4) % 5 = 4 by omega]; rfl
theorem open_mems {fuel : Nat} {cs : List Value} {x : DataW H × List MemPlace} (h : DataW.trod enc Tryd.prog w 0 (fun _ => true) held fuel 36 cs = some x) :
    ∃ A k c f M, cs = [.slice A k c] ∧ Src w A k c 2 ((List.range (k * 2)).map f) ∧ (∀ j, j < k * 2 → (f j).oneCell' = true) ∧ MemF w f k M ∧ (k = 0 ∨ ∃ el sp, x.1 = .slice el sp ∧ el.length = k) := by
  rcases Go.Deep.open_slice Tryd.underlying36 h with ⟨hcs, _⟩ | ⟨a, len, cap, m, n, D, Pl, hcs, _, hl, hm, hmm, hx, hi⟩
  · exact ⟨none, 0, 0, fun _ => .nilIface, fun _ => ⟨false, none, 0, 0, fun _ => 0⟩, hcs, ⟨by simp, .inl ⟨rfl, rfl, rfl⟩⟩, fun j hj => by omega, fun i hi => by omega, .inl rfl⟩
  · simp only [if_true] at hmm
    have hall : ∀ i, i < len → ∃ E : Mem, (∀ j, j < 2 → w.cell? (a.add (i * 2 + j)) = [Value.bool E.pm, .slice E.A E.n E.c][j]?) ∧ Us w E.A E.n E.z ∧ E.n ≤ maxLen := by
      intro i hil
      obtain ⟨cs', hc, ht⟩ := hi i (by omega)
      rw [cellsTapi_Member] at hc
      obtain ⟨_, hlen, hat⟩ := World.cells?_some hc
      obtain ⟨E, rfl, hb⟩ := open_mem ht
      exact ⟨E, fun j hj => by rw [← Go.Deep.add_add]; exact hat j hj, hb⟩
    obtain ⟨E, hE⟩ : ∃ E : Nat → Mem, ∀ i, i < len → (∀ j, j < 2 → w.cell? (a.add (i * 2 + j)) = [Value.bool (E i).pm, .slice (E i).A (E i).n (E i).c][j]?) ∧ Us w (E i).A (E i).n (E i).z ∧ (E i).n ≤ maxLen := by
      classical
      refine ⟨fun i => if hi : i < len then Classical.choose (hall i hi) else ⟨false, none, 0, 0, fun _ => 0⟩, fun i hi => ?_⟩
      simp only [dif_pos hi]
      exact Classical.choose_spec (hall i hi)
    let f : Nat → Value := fun j => [Value.bool (E (j / 2)).pm, .slice (E (j / 2)).A (E (j / 2)).n (E (j / 2)).c].getD (j % 2) .nilIface
    have hf : ∀ j, j < len * 2 → w.cell? (a.add j) = some (f j) := by
      intro j hj
      have h1 := (hE (j / 2) (by omega)).1 (j % 2) (Nat.mod_lt _ (by omega))
      rw [show j / 2 * 2 + j % 2 = j by omega] at h1
      rw [h1]
      have h2 : j % 2 < 2 := Nat.mod_lt _ (by omega)
      simp only [f, List.getD_eq_getElem?_getD]
      rw [List.getElem?_eq_getElem (by simpa using h2)]
      rfl
    refine ⟨some a, len, cap, f, E, hcs, ⟨by simp, .inr ⟨a, rfl, fun j u hu => ?_⟩⟩, fun j hj => ?_, fun i hil => ?_, .inr ⟨_, _, by rw [hx], by simp⟩⟩
    · have hj : j < len * 2 := by
        have := (List.getElem?_eq_some_iff.1 hu).1
        simpa using this
      rw [List.getElem?_map, List.getElem?_range hj] at hu
      rw [hf j hj]; exact hu
    · have h2 : j % 2 < 2 := Nat.mod_lt _ (by omega)
      show (f j).oneCell' = true
      simp only [f]
      match j % 2, h2 with
      | 0, _ => rfl
      | 1, _ => rfl
    · refine ⟨?_, ?_, (hE i hil).2⟩ <;> simp only [f]
      · rw [show i * 2 / 2 = i by omega, show i * 2 % 2 = 0 by omega]; rfl
      · rw [show (i * 2 + 1) / 2 = i by omega, show (i * 2 + 1) % 2 = 1 by omega]; rfl
end


theorem open_urow {H : Type} {enc : TypeId × Value → H} {w : World} {base : Nat} {spare : Nat → Bool} {held : Bool} {n : Nat} {cs : List Value} {x : DataW H × List MemPlace} (h : DataW.trod enc Tryd.prog w base spare held n 22 cs = some x) :
    ∃ A k c zs, cs = [.slice A k c] ∧ Row w A k c zs ∧ (∀ z ∈ zs, 0 ≤ z ∧ z < 4294967296) ∧ (k = 0 ∨ ∃ el sp, x.1 = .slice el sp ∧ el.length = k) := by
  rcases open_ints Tryd.underlying22 Tryd.underlying23 cellsTuint32 h with ⟨hcs, _⟩ | ⟨a, len, cap, zs, hcs, _, hl, hm, hz, hx, hcell, hwf⟩
  · exact ⟨none, 0, 0, [], hcs, ⟨rfl, .inl ⟨rfl, rfl, rfl⟩⟩, fun _ h => (by cases h), .inl rfl⟩
  · have hlen : len ≤ zs.length := by rw [hz]; split <;> omega
    have hbd : ∀ z ∈ zs.take len, 0 ≤ z ∧ z < 4294967296 := fun z hz => by
      have := wf_u32 (hwf z (List.mem_of_mem_take hz)); omega
    refine ⟨_, len, cap, zs.take len, hcs, ⟨by simp; omega, .inr ⟨a, rfl, fun j u hu => ?_⟩⟩, hbd, .inr ⟨_, _, by rw [hx], by simp [lits]; omega⟩⟩
    have hj : j < len := by
      rcases Nat.lt_or_ge j len with h' | h'
      · exact h'
      · rw [List.getElem?_eq_none (by simp; omega)] at hu; cases hu
    have hc := hcell j (by omega)
    rw [List.getElem?_take, if_pos hj] at hu
    rw [hc, List.getD_eq_getElem?_getD, hu]
    rfl

theorem src_spot {w : World} {A : Option Addr} {n c size : Nat} {f : Nat → Value} (h : Src w A n c size ((List.range (n * size)).map f)) (h0 : 0 < n * size) : ∃ b off, A = some ⟨b, off, none⟩ ∧ ∀ j, j < n * size → w.cell? ⟨b, off + j, none⟩ = some (f j) := by
  obtain ⟨h1, ⟨rfl, rfl, rfl⟩ | ⟨ad, rfl, h2⟩⟩ := h
  · simp at h0
  · have hc : ∀ j, j < n * size → w.cell? (ad.add j) = some (f j) := fun j hj => h2 j (f j) (by rw [List.getElem?_map, List.getElem?_range hj]; rfl)
    obtain ⟨b, off, spot⟩ := ad
    have : spot = none := by simpa [Addr.add] using World.cell?_spot (hc 0 h0)
    subst this
    exact ⟨b, off, rfl, fun j hj => by have := hc j hj; rwa [Addr.add_lit] at this⟩
theorem ents_src {w : World} {A : Option Addr} {n c : Nat} {f : Nat → Value} {E : Nat → Ent} (h : Src w A n c 5 ((List.range (n * 5)).map f)) (hE : EntF f n E) : Ents w A n E := fun i hi => by
  obtain ⟨b, off, hA, hc⟩ := src_spot h (by omega)
  obtain ⟨e0, e1, e2, e3, e4, e5⟩ := hE i hi
  refine ⟨b, off, hA, ?_, ?_, ?_, ?_, ?_, e5⟩
  · rw [← e0]; exact hc _ (by omega)
  · rw [← e1]; exact hc (i * 5 + 1) (by omega)
  · rw [← e2]; exact hc (i * 5 + 2) (by omega)
  · rw [← e3]; exact hc (i * 5 + 3) (by omega)
  · rw [← e4]; exact hc (i * 5 + 4) (by omega)
theorem mems_src {w : World} {A : Option Addr} {n c : Nat} {f : Nat → Value} {M : Nat → Mem} (h : Src w A n c 2 ((List.range (n * 2)).map f)) (hM : MemF w f n M) : Mems w A n M := fun i hi => by
  obtain ⟨b, off, hA, hc⟩ := src_spot h (by omega)
  obtain ⟨e0, e1, e2⟩ := hM i hi
  refine ⟨b, off, hA, ?_, ?_, e2⟩
  · rw [← e0]; exact hc _ (by omega)
  · rw [← e1]; exact hc (i * 2 + 1) (by omega)

theorem bulk_one {H : Type} (d : DataW H) : 1 ≤ Rows.uptoBulk d := by
  cases d with
  | lit l => cases l <;> simp [Rows.uptoBulk]
  | nil => simp [Rows.uptoBulk]
  | ptr d => simp [Rows.uptoBulk]
  | slice elems spare => simp [Rows.uptoBulk]
  | agg parts => simp [Rows.uptoBulk]
  | iface t d => simp [Rows.uptoBulk]
  | map entries => simp [Rows.uptoBulk]
  | held h => simp [Rows.uptoBulk]
theorem bulk_part {H : Type} {d : DataW H} {l : List (DataW H)} (h : d ∈ l) : Rows.uptoBulk d ≤ Rows.uptoBulkAll l := by
  induction l with
  | nil => cases h
  | cons x r ih =>
    simp only [Rows.uptoBulkAll]
    cases List.mem_cons.1 h with
    | inl e => subst e; omega
    | inr e => have := ih e; omega
theorem bulk_len {H : Type} (l : List (DataW H)) : l.length ≤ Rows.uptoBulkAll l := by
  induction l with
  | nil => simp [Rows.uptoBulkAll]
  | cons x r ih => have := bulk_one x; simp only [Rows.uptoBulkAll, List.length_cons]; omega
theorem bulk_all {H : Type} {l : List (DataW H)} (hk : Rows.uptoSmall H l = true) : Rows.uptoBulkAll l ≤ 1048576 := of_decide_eq_true hk
theorem bulk_slice {H : Type} {l : List (DataW H)} (hk : Rows.uptoSmall H l = true) {d : DataW H} (hd : d ∈ l) {k : Nat} (h : k = 0 ∨ ∃ el sp, d = .slice el sp ∧ el.length = k) : k ≤ 1048576 := by
  have h1 := bulk_all hk
  have h2 := bulk_part hd
  rcases h with rfl | ⟨el, sp, rfl, rfl⟩
  · omega
  · have := bulk_len el
    simp only [Rows.uptoBulk] at h2
    omega
theorem bulk_string {H : Type} {l : List (DataW H)} (hk : Rows.uptoSmall H l = true) {bytes : List UInt8} (hd : (DataW.lit (.string bytes) : DataW H) ∈ l) : bytes.length ≤ 1048576 := by
  have h1 := bulk_all hk
  have h2 := bulk_part hd
  simp only [Rows.uptoBulk] at h2
  omega

theorem starL : "*" ++ "errors.errorString" = "*errors.errorString" := by decide
theorem rowErrL (u : TypeId) (h : Tryd.prog.typeName? 3 u = some "*errors.errorString") : u = 128 :=
  typeName_ptr_named (nm := "errors.errorString") (by rw [starL]; kernel_rfl) (by kernel_rfl) (by decide) u (by rw [starL]; exact h)
theorem gSynT : (Tryd.prog.globals[1]?).map (·.type) = some 59 := by kernel_rfl
theorem gRngT : (Tryd.prog.globals[2]?).map (·.type) = some 59 := by kernel_rfl
theorem gTabT : (Tryd.prog.globals[3]?).map (·.type) = some 132 := by kernel_rfl
theorem cellsES : Tryd.prog.cellsOf 130 = 1 := by kernel_rfl
theorem cellsS : Tryd.prog.cellsOf 9 = 1 := by kernel_rfl
theorem cellsU : Tryd.prog.cellsOf 57 = 1 := by kernel_rfl
theorem cellsT : Tryd.prog.cellsOf 132 = 20 := by kernel_rfl
theorem sv_of {W : World} (hl : laidMet Tryd.prog [("math/bits.deBruijn32tab", Rows.laid_math_bits_deBruijn32tab), ("math/bits.deBruijn64tab", Rows.laid_math_bits_deBruijn64tab), ("internal/strconv.uint64pow10", Rows.laid_internal_strconv_uint64pow10), ("strconv.ErrRange", Rows.laid_strconv_ErrRange), ("strconv.ErrSyntax", Rows.laid_strconv_ErrSyntax)] W) (hsh : W.ShapedOpen Tryd.prog) : SV W := by
  have hl1 := hl.tail.tail
  have hl2 := hl1.tail
  have hl3 := hl2.tail
  refine ⟨?_, ?_, ?_, ?_⟩
  · obtain ⟨a, s0, hv, _⟩ := laid_sentinel hl3 gSyn gSynT Tryd.underlying59 rowErrL Tryd.underlying128 Tryd.underlying130 rfl rfl Tryd.underlying9 cellsES cellsS
    exact ⟨_, _, hv⟩
  · obtain ⟨a, s0, hv, _⟩ := laid_sentinel hl2 gRng gRngT Tryd.underlying59 rowErrL Tryd.underlying128 Tryd.underlying130 rfl rfl Tryd.underlying9 cellsES cellsS
    exact ⟨_, _, hv⟩
  · have e : (Rows.laid_internal_strconv_uint64pow10 : DataW Unit) = Lib.tabData .u64 Lib.pow10Tab := by kernel_rfl
    have hl1' : laidMet Tryd.prog (("internal/strconv.uint64pow10", Lib.tabData .u64 Lib.pow10Tab) :: [("strconv.ErrRange", Rows.laid_strconv_ErrRange), ("strconv.ErrSyntax", Rows.laid_strconv_ErrSyntax)]) W := by rw [← e]; exact hl1
    exact Lib.tabIs_of_head gTab gTabT Tryd.underlying132 Tryd.underlying57 cellsU cellsT hl1'
  · exact Tryd.laysM219.s1_3 W hsh

/-- there is an input that fits, at a world that is written out -/
theorem witness_cond {H : Type} {enc : TypeId × Value → H} {C : Checked} {os : Os} {f : FuncId} {fn : Func} {s : OpenSpec} {conds : List PathCond} {apart : Bool} {laid : List (String × DataW Unit)} (w0 : World) (args : Array Value) (hos : w0.os = os)
    (hsh : (w0.forCall (fun _ _ => 0) ⟨#[], args, []⟩).Shaped C.prog)
    (hok : Input.okWideB C.prog (w0.forCall (fun _ _ => 0) ⟨#[], args, []⟩) f ⟨#[], args, []⟩ = true)
    (hrow : s.preRow enc C.prog fn conds apart laid (w0.forCall (fun _ _ => 0) ⟨#[], args, []⟩).memory args) :
    ∃ (w : World) (tape : Tape) (i : Input), w.os = os ∧ (w.forCall tape i).Shaped C.prog ∧ i.vars = [] ∧ Input.okWide C.prog (w.forCall tape i) .any w.heap.size f i ∧
      s.preRow enc C.prog fn conds apart laid (w.forCall tape i).memory i.args ∧ ({} : Assume).holds C.prog (lone (Frame.enter C.prog f i.args .normal) [] (w.forCall tape i)) :=
  ⟨w0, fun _ _ => 0, ⟨#[], args, []⟩, hos, hsh, (Input.okWide_of_okWideB (base := 0) hok).1, (Input.okWide_of_okWideB hok).2, hrow, by
    simp only [Assume.holds]
    exact ⟨by simp, by simp, fun _ => Modest.zero, by simp, by simp⟩⟩
end Go.Proofs.YtopckpjhdbjmbaaDoor.Ld
