/- works: the small lists that each statement asks first are decided as they must be. -/
import Derived.Test.YtopckpjhdbjmbaaDoorZX
import Derived.Test.YtopckpjhdbjmbaaDoorZD
namespace Go.Proofs.YtopckpjhdbjmbaaDoor.Ld
open Go.RowKit Go.Proofs.YtopckpjhdbjmbaaDoor.Lx

def E0 (i : Nat) : Ent := if i = 0 then ⟨true, 167772160, 8, 16, 24⟩ else ⟨false, 167772160, 8, 8, 32⟩
theorem f0 : firstI (fitE E0 167772160 8) 0 2 = 1 := by decide
theorem f1 : firstI (fitE E0 167837696 16) 0 2 = 0 := by decide
theorem p0 : parseA [49, 58, 49] = some 65537 := by
  have := parseA_text 65537 (by omega)
  rwa [show (65537 : Nat) = 1 * 65536 + 1 from rfl, textL_eq 1 1 (by omega), dec_small 1 (by omega)] at this
theorem p1 : parseA [48, 49, 58, 49] = none := by rw [parse_same]; decide
theorem p2 : parseA [49, 58, 54, 53, 53, 51, 54] = none := by rw [parse_same]; decide
theorem n0 : normL [5, 1, 5] = [1, 5] := (norm_is (by simp [Up]) (fun x => by simp; omega)).symm
theorem nl : (normL [5, 1, 5]).length = 2 := by rw [n0]; rfl

def M0 (s : Nat) (_ : Nat) : Mem := ⟨true, some ⟨s, 0, none⟩, 2, 2, fun j => ([1, 2] : List Int).getD j 0⟩
theorem m0 (s : Nat) (zs : List Int) (h1 : (1 : Int) ∈ zs) (h2 : (2 : Int) ∈ zs) : firstI (memB (fun i => zs.getD i 0) zs.length (M0 s)) 0 1 = 0 := by
  have : memB (fun i => zs.getD i 0) zs.length (M0 s) 0 = true := by
    rw [memB_all, allB_iff]
    intro j hj
    have hj2 : j < 2 := hj
    rw [has_list]
    match j, hj2 with
    | 0, _ => simpa [M0] using h1
    | 1, _ => simpa [M0] using h2
  unfold firstI
  rw [this]; rfl
theorem m1 (s : Nat) (zs : List Int) (h2 : (2 : Int) ∉ zs) : firstI (memB (fun i => zs.getD i 0) zs.length (M0 s)) 0 1 = -1 := by
  have : memB (fun i => zs.getD i 0) zs.length (M0 s) 0 = false := by
    rw [memB_all, Bool.eq_false_iff, Ne, allB_iff]
    intro h
    have := h 1 (by show 1 < 2; omega)
    rw [has_list] at this
    exact h2 (by simpa [M0] using this)
  unfold firstI
  rw [this]; rfl

/-- the world behind the small lists -/
def wk (w : World) : World := (((((w.alloc (Obj.cells #[Value.int .u32 167772160, Value.int .i64 8] 35)).alloc
  (Obj.cells #[Value.bool true, Value.int .u32 167772160, Value.int .i64 8, Value.int .i64 16, Value.int .i64 24, Value.bool false, Value.int .u32 167772160, Value.int .i64 8, Value.int .i64 8, Value.int .i64 32] 44)).alloc
  (Obj.cells #[Value.string ⟨#[]⟩, Value.slice (some ⟨w.heap.size + 1, 0, none⟩) 2 2] 39)).alloc
  (Obj.cells #[Value.int .u32 1, Value.int .u32 2] 23)).alloc
  (Obj.cells #[Value.bool true, Value.slice (some ⟨w.heap.size + 1 + 1 + 1, 0, none⟩) 2 2] 50)).alloc
  (Obj.cells #[Value.string ⟨#[]⟩, Value.slice (some ⟨w.heap.size + 1 + 1 + 1 + 1, 0, none⟩) 1 1] 47)
theorem alloc_lt {w : World} {o : Obj} {g : Nat} {p : Obj} (h : w.heap[g]? = some p) : (w.alloc o).heap[g]? = some p := heap_old h
structure WK (s : Nat) (X : World) : Prop where
  h0 : X.heap[s]? = some (Obj.cells #[Value.int .u32 167772160, Value.int .i64 8] 35)
  h1 : X.heap[s + 1]? = some (Obj.cells #[Value.bool true, Value.int .u32 167772160, Value.int .i64 8, Value.int .i64 16, Value.int .i64 24, Value.bool false, Value.int .u32 167772160, Value.int .i64 8, Value.int .i64 8, Value.int .i64 32] 44)
  h2 : X.heap[s + 1 + 1]? = some (Obj.cells #[Value.string ⟨#[]⟩, Value.slice (some ⟨s + 1, 0, none⟩) 2 2] 39)
  h3 : X.heap[s + 1 + 1 + 1]? = some (Obj.cells #[Value.int .u32 1, Value.int .u32 2] 23)
  h4 : X.heap[s + 1 + 1 + 1 + 1]? = some (Obj.cells #[Value.bool true, Value.slice (some ⟨s + 1 + 1 + 1, 0, none⟩) 2 2] 50)
  h5 : X.heap[s + 1 + 1 + 1 + 1 + 1]? = some (Obj.cells #[Value.string ⟨#[]⟩, Value.slice (some ⟨s + 1 + 1 + 1 + 1, 0, none⟩) 1 1] 47)
theorem WK.below {s : Nat} {X Y : World} (h : WK s X) (hb : Below X.heap.size X Y) : WK s Y := ⟨heapB hb h.h0, heapB hb h.h1, heapB hb h.h2, heapB hb h.h3, heapB hb h.h4, heapB hb h.h5⟩
theorem size_alloc1 (w : World) (o : Obj) : (w.alloc o).heap.size = w.heap.size + 1 := by simp
theorem heap_at {w : World} {o : Obj} {n : Nat} (h : n = w.heap.size) : (w.alloc o).heap[n]? = some o := by rw [h]; exact heap_new w o
theorem wk_ok (w : World) : WK w.heap.size (wk w) ∧ Below w.heap.size w (wk w) := by
  refine ⟨⟨?_, ?_, ?_, ?_, ?_, ?_⟩, ?_⟩
  · exact heap_old (heap_old (heap_old (heap_old (heap_old (heap_at rfl)))))
  · exact heap_old (heap_old (heap_old (heap_old (heap_at (by simp)))))
  · exact heap_old (heap_old (heap_old (heap_at (by simp))))
  · exact heap_old (heap_old (heap_at (by simp)))
  · exact heap_old (heap_at (by simp))
  · exact heap_at (by simp)
  · exact ((((((Below.refl _ _).alloc (Nat.le_refl _) _).alloc (by simp) _).alloc (by simp; omega) _).alloc (by simp; omega) _).alloc (by simp; omega) _).alloc (by simp; omega) _
theorem WK.ents {s : Nat} {X : World} (h : WK s X) : Ents X (some ⟨s + 1, 0, none⟩) 2 E0 := by
  intro i hi
  refine ⟨s + 1, 0, rfl, ?_⟩
  match i, hi with
  | 0, _ => exact ⟨cell_heap h.h1 rfl, cell_heap h.h1 rfl, cell_heap h.h1 rfl, cell_heap h.h1 rfl, cell_heap h.h1 rfl, by decide, by decide⟩
  | 1, _ => exact ⟨cell_heap h.h1 rfl, cell_heap h.h1 rfl, cell_heap h.h1 rfl, cell_heap h.h1 rfl, cell_heap h.h1 rfl, by decide, by decide⟩
theorem WK.mems {s : Nat} {X : World} (h : WK s X) : Mems X (some ⟨s + 1 + 1 + 1 + 1, 0, none⟩) 1 (M0 (s + 1 + 1 + 1)) := by
  intro i hi
  obtain rfl : i = 0 := by omega
  refine ⟨s + 1 + 1 + 1 + 1, 0, rfl, cell_heap h.h4 rfl, cell_heap h.h4 rfl, fun j hj => ?_, by show (2 : Nat) ≤ maxLen; decide⟩
  have hj2 : j < 2 := hj
  refine ⟨s + 1 + 1 + 1, 0, rfl, ?_⟩
  match j, hj2 with
  | 0, _ => exact cell_heap h.h3 rfl
  | 1, _ => exact cell_heap h.h3 rfl
/-- a row that was just built -/
theorem row_new (X : World) (zs : List Int) : Row (X.alloc (Obj.cells (zs.map encU).toArray 23)) (some ⟨X.heap.size, 0, none⟩) zs.length zs.length zs := by
  refine ⟨rfl, .inr ⟨⟨X.heap.size, 0, none⟩, rfl, fun j u hu => ?_⟩⟩
  rw [Addr.add_lit, Nat.zero_add]
  exact cell_heap (heap_new _ _) (by simp [hu])
theorem pmt_1 : pmt E0 1 = false := by decide
theorem pmt_0 : pmt E0 0 = true := by decide

theorem plc_1 : plc 1 = .tuple #[.int .i64 1, .bool true] := rfl
theorem pmtM_0 (s : Nat) : pmtM (M0 s) 0 = true := rfl
theorem pmtM_1 (s : Nat) : pmtM (M0 s) (-1) = false := rfl
theorem allow_yes (s : Nat) (X : World) (h : WK s X) :
    Calls Tryd.prog 18 #[.agg #[.string ⟨#[]⟩, .slice (some ⟨s + 1 + 1 + 1 + 1, 0, none⟩) 1 1], .slice (some ⟨X.heap.size, 0, none⟩) 3 3] (X.alloc (Obj.cells #[.int .u32 2, .int .u32 3, .int .u32 1] 23)) fun e w' => e = .returned (.bool true) ∧ Below X.heap.size X w' := by
  have hb := bel_one X (Obj.cells #[.int .u32 2, .int .u32 3, .int .u32 1] 23)
  have hr : Row (X.alloc (Obj.cells #[.int .u32 2, .int .u32 3, .int .u32 1] 23)) (some ⟨X.heap.size, 0, none⟩) 3 3 [2, 3, 1] := row_new X [2, 3, 1]
  have := allows_any ⟨#[]⟩ (some ⟨X.heap.size, 0, none⟩) 3 3 (fun i => ([2, 3, 1] : List Int).getD i 0) (some ⟨s + 1 + 1 + 1 + 1, 0, none⟩) 1 1 (M0 (s + 1 + 1 + 1)) _ (by decide) hr.us (by decide) (h.below hb).mems
  have e : firstI (memB (fun i => ([2, 3, 1] : List Int).getD i 0) 3 (M0 (s + 1 + 1 + 1))) 0 1 = 0 := m0 _ [2, 3, 1] (by simp) (by simp)
  rw [e, pmtM_0] at this
  exact this.mono fun e w' hh => ⟨hh.1, below_wide hb hh.2⟩
theorem allow_no (s : Nat) (X : World) (h : WK s X) :
    Calls Tryd.prog 18 #[.agg #[.string ⟨#[]⟩, .slice (some ⟨s + 1 + 1 + 1 + 1, 0, none⟩) 1 1], .slice (some ⟨X.heap.size, 0, none⟩) 1 1] (X.alloc (Obj.cells #[.int .u32 1] 23)) fun e w' => e = .returned (.bool false) ∧ Below X.heap.size X w' := by
  have hb := bel_one X (Obj.cells #[.int .u32 1] 23)
  have hr : Row (X.alloc (Obj.cells #[.int .u32 1] 23)) (some ⟨X.heap.size, 0, none⟩) 1 1 [1] := row_new X [1]
  have := allows_any ⟨#[]⟩ (some ⟨X.heap.size, 0, none⟩) 1 1 (fun i => ([1] : List Int).getD i 0) (some ⟨s + 1 + 1 + 1 + 1, 0, none⟩) 1 1 (M0 (s + 1 + 1 + 1)) _ (by decide) hr.us (by decide) (h.below hb).mems
  have e : firstI (memB (fun i => ([1] : List Int).getD i 0) 1 (M0 (s + 1 + 1 + 1))) 0 1 = -1 := m1 _ [1] (by simp)
  rw [e, pmtM_1] at this
  exact this.mono fun e w' hh => ⟨hh.1, below_wide hb hh.2⟩
theorem normal_two (X : World) :
    Calls Tryd.prog 6 #[.slice (some ⟨X.heap.size, 0, none⟩) 3 3] (X.alloc (Obj.cells #[.int .u32 5, .int .u32 1, .int .u32 5] 23)) fun e w' => ∃ A c, e = .returned (.slice A 2 c) ∧ Below X.heap.size X w' := by
  have hb := bel_one X (Obj.cells #[.int .u32 5, .int .u32 1, .int .u32 5] 23)
  have hr : Row (X.alloc (Obj.cells #[.int .u32 5, .int .u32 1, .int .u32 5] 23)) (some ⟨X.heap.size, 0, none⟩) 3 3 [5, 1, 5] := row_new X [5, 1, 5]
  refine (normal_any _ 3 3 [5, 1, 5] _ (by decide) hr).mono ?_
  rintro e w' ⟨v, rfl, hown, hbl⟩
  obtain ⟨A, c, rfl⟩ := own_slice hown
  rw [nl]
  exact ⟨A, c, rfl, below_wide hb hbl⟩

set_option maxHeartbeats 4000000 in
set_option maxRecDepth 100000 in
theorem works_any (w : World) (hsv : SV w) :
    Calls Tryd.prog 15 #[] w fun e w' => e = .returned (.bool true) ∧ Below w.heap.size w w' := by
  have hk := wk_ok w
  have HK0 := hide hk.1
  have HB0 := hide hk.2
  have HV0 := hide (hsv.below hk.2)
  have HE := fun X (h : WK w.heap.size X) => entry_any ⟨#[]⟩ (some ⟨w.heap.size + 1, 0, none⟩) 2 2 E0 167772160 8 X (by decide) h.ents (by decide) (by decide)
  have HP0 := fun X (h : WK w.heap.size X) => permits_any ⟨#[]⟩ (some ⟨w.heap.size + 1, 0, none⟩) 2 2 E0 167772160 8 X (by decide) h.ents (by decide) (by decide)
  have HP1 := fun X (h : WK w.heap.size X) => permits_any ⟨#[]⟩ (some ⟨w.heap.size + 1, 0, none⟩) 2 2 E0 167837696 16 X (by decide) h.ents (by decide) (by decide)
  rw [f0] at HE HP0
  rw [f1] at HP1
  rw [pmt_1] at HP0
  rw [pmt_0] at HP1
  rw [plc_1] at HE
  have HQ0 := fun X (h : SV X) => parse_pe ⟨#[49, 58, 49]⟩ X (by decide) h
  have HQ1 := fun X (h : SV X) => parse_pe ⟨#[48, 49, 58, 49]⟩ X (by decide) h
  have HQ2 := fun X (h : SV X) => parse_pe ⟨#[49, 58, 54, 53, 53, 51, 54]⟩ X (by decide) h
  rw [show T ⟨#[49, 58, 49]⟩ = [49, 58, 49] from rfl, p0, show pV (some 65537) = 65537 from rfl, show pE (some 65537) = 0 from rfl] at HQ0
  rw [show T ⟨#[48, 49, 58, 49]⟩ = [48, 49, 58, 49] from rfl, p1, show pV none = 0 from rfl, show pE none = 4 from rfl] at HQ1
  rw [show T ⟨#[49, 58, 54, 53, 53, 51, 54]⟩ = [49, 58, 54, 53, 53, 51, 54] from rfl, p2, show pV none = 0 from rfl, show pE none = 4 from rfl] at HQ2
  have HEh := hide HE
  have HP0h := hide HP0
  have HP1h := hide HP1
  have HQ0h := hide HQ0
  have HQ1h := hide HQ1
  have HQ2h := hide HQ2
  clear hk hsv HE HP0 HP1 HQ0 HQ1 HQ2
  go_enter Tryd.func15, Tryd.ntmps15
  go_wp2_with fail
  generalize hX : (((((w.alloc (Obj.cells #[Value.int .u32 167772160, Value.int .i64 8] 35)).alloc _).alloc _).alloc _).alloc _).alloc _ = w0
  have hX' : w0 = wk w := hX.symm
  clear hX
  rw [← hX'] at HK0 HB0 HV0
  clear hX'
  refine (HEh.out _ HK0.out).mono ?_; rintro e w1 ⟨rfl, b1⟩
  have HK1 := hide (HK0.out.below b1)
  have HB1 := hide (below_wide HB0.out b1)
  have HV1 := hide (HV0.out.below b1)
  clear HK0 HB0 HV0 b1
  have c0 := cell_heap (j := 0) HK1.out.h0 rfl
  have c1 := cell_heap (j := 1) HK1.out.h0 rfl
  have c2 := cell_heap (j := 0) HK1.out.h2 rfl
  have c3 := cell_heap (j := 1) HK1.out.h2 rfl
  have c4 := cell_heap (j := 0) HK1.out.h5 rfl
  have c5 := cell_heap (j := 1) HK1.out.h5 rfl
  go_wp2_with fail
  refine (HQ0h.out _ HV1.out).mono ?_; rintro e w2 ⟨rfl, b2⟩
  have HK2 := hide (HK1.out.below b2)
  have HB2 := hide (below_wide HB1.out b2)
  have HV2 := hide (HV1.out.below b2)
  clear HK1 HB1 HV1 b2 c0 c1 c2 c3 c4 c5
  have c0 := cell_heap (j := 0) HK2.out.h0 rfl
  have c1 := cell_heap (j := 1) HK2.out.h0 rfl
  have c2 := cell_heap (j := 0) HK2.out.h2 rfl
  have c3 := cell_heap (j := 1) HK2.out.h2 rfl
  have c4 := cell_heap (j := 0) HK2.out.h5 rfl
  have c5 := cell_heap (j := 1) HK2.out.h5 rfl
  go_wp2_with fail
  refine (HQ1h.out _ HV2.out).mono ?_; rintro e w3 ⟨rfl, b3⟩
  have HK3 := hide (HK2.out.below b3)
  have HB3 := hide (below_wide HB2.out b3)
  have HV3 := hide (HV2.out.below b3)
  clear HK2 HB2 HV2 b3 c0 c1 c2 c3 c4 c5
  have c0 := cell_heap (j := 0) HK3.out.h0 rfl
  have c1 := cell_heap (j := 1) HK3.out.h0 rfl
  have c2 := cell_heap (j := 0) HK3.out.h2 rfl
  have c3 := cell_heap (j := 1) HK3.out.h2 rfl
  have c4 := cell_heap (j := 0) HK3.out.h5 rfl
  have c5 := cell_heap (j := 1) HK3.out.h5 rfl
  go_wp2_with fail
  refine (HQ2h.out _ HV3.out).mono ?_; rintro e w4 ⟨rfl, b4⟩
  have HK4 := hide (HK3.out.below b4)
  have HB4 := hide (below_wide HB3.out b4)
  have HV4 := hide (HV3.out.below b4)
  clear HK3 HB3 HV3 b4 c0 c1 c2 c3 c4 c5
  have c0 := cell_heap (j := 0) HK4.out.h0 rfl
  have c1 := cell_heap (j := 1) HK4.out.h0 rfl
  have c2 := cell_heap (j := 0) HK4.out.h2 rfl
  have c3 := cell_heap (j := 1) HK4.out.h2 rfl
  have c4 := cell_heap (j := 0) HK4.out.h5 rfl
  have c5 := cell_heap (j := 1) HK4.out.h5 rfl
  go_wp2_with fail
  refine (HP0h.out _ HK4.out).mono ?_; rintro e w5 ⟨rfl, b5⟩
  have HK5 := hide (HK4.out.below b5)
  have HB5 := hide (below_wide HB4.out b5)
  have HV5 := hide (HV4.out.below b5)
  clear HK4 HB4 HV4 b5 c0 c1 c2 c3 c4 c5
  have c0 := cell_heap (j := 0) HK5.out.h0 rfl
  have c1 := cell_heap (j := 1) HK5.out.h0 rfl
  have c2 := cell_heap (j := 0) HK5.out.h2 rfl
  have c3 := cell_heap (j := 1) HK5.out.h2 rfl
  have c4 := cell_heap (j := 0) HK5.out.h5 rfl
  have c5 := cell_heap (j := 1) HK5.out.h5 rfl
  go_wp2_with fail
  refine (HP1h.out _ HK5.out).mono ?_; rintro e w6 ⟨rfl, b6⟩
  have HK6 := hide (HK5.out.below b6)
  have HB6 := hide (below_wide HB5.out b6)
  have HV6 := hide (HV5.out.below b6)
  clear HK5 HB5 HV5 b6 c0 c1 c2 c3 c4 c5
  have c0 := cell_heap (j := 0) HK6.out.h0 rfl
  have c1 := cell_heap (j := 1) HK6.out.h0 rfl
  have c2 := cell_heap (j := 0) HK6.out.h2 rfl
  have c3 := cell_heap (j := 1) HK6.out.h2 rfl
  have c4 := cell_heap (j := 0) HK6.out.h5 rfl
  have c5 := cell_heap (j := 1) HK6.out.h5 rfl
  go_wp2_with fail
  refine (allow_yes _ _ HK6.out).mono ?_; rintro e w7 ⟨rfl, b7⟩
  have HK7 := hide (HK6.out.below b7)
  have HB7 := hide (below_wide HB6.out b7)
  have HV7 := hide (HV6.out.below b7)
  clear HK6 HB6 HV6 b7 c0 c1 c2 c3 c4 c5
  have c0 := cell_heap (j := 0) HK7.out.h0 rfl
  have c1 := cell_heap (j := 1) HK7.out.h0 rfl
  have c2 := cell_heap (j := 0) HK7.out.h2 rfl
  have c3 := cell_heap (j := 1) HK7.out.h2 rfl
  have c4 := cell_heap (j := 0) HK7.out.h5 rfl
  have c5 := cell_heap (j := 1) HK7.out.h5 rfl
  go_wp2_with fail
  refine (allow_no _ _ HK7.out).mono ?_; rintro e w8 ⟨rfl, b8⟩
  have HK8 := hide (HK7.out.below b8)
  have HB8 := hide (below_wide HB7.out b8)
  have HV8 := hide (HV7.out.below b8)
  clear HK7 HB7 HV7 b8 c0 c1 c2 c3 c4 c5
  have c0 := cell_heap (j := 0) HK8.out.h0 rfl
  have c1 := cell_heap (j := 1) HK8.out.h0 rfl
  have c2 := cell_heap (j := 0) HK8.out.h2 rfl
  have c3 := cell_heap (j := 1) HK8.out.h2 rfl
  have c4 := cell_heap (j := 0) HK8.out.h5 rfl
  have c5 := cell_heap (j := 1) HK8.out.h5 rfl
  go_wp2_with fail
  refine (normal_two _).mono ?_; rintro e w9 ⟨A9, c9, rfl, b9⟩
  have HB9 := hide (below_wide HB8.out b9)
  clear b9
  go_wp2_with fail
  go_ret
  exact ⟨rfl, HB9.out⟩
end Go.Proofs.YtopckpjhdbjmbaaDoor.Ld
