/- over, whole; Exists, Forall. -/
import Derived.Test.YtgfjdkkfgclhjaaBS
namespace Go.Proofs.Ytgfjdkkfgclhjaa.Bd
open Go.RowKit Go.Proofs.Ytgfjdkkfgclhjaa Go.Proofs.Ytgfjdkkfgclhjaa.Lx Go.Maps

def encL (l : List Nat) : List Int := l.map fun (x : Nat) => (x : Int)
theorem encL_len (l : List Nat) : (encL l).length = l.length := by simp [encL]
theorem knownB_of {vs : Nat} {l : List Nat} (h : ∀ x ∈ l, x < vs) : knownB vs (encL l) = true := by
  unfold knownB
  rw [Bool.not_eq_true', List.any_eq_false]
  intro x hx
  obtain ⟨y, hy, rfl⟩ := List.mem_map.1 hx
  have := h y hy
  unfold outB
  simp
  omega
def memB (l : List Nat) : Nat → Bool := fun y => decide (y ∈ l)
theorem memB_next {l : List Nat} {i x : Nat} (hx : l[i]? = some x) : (fun y => decide (y = x) || memB (l.take i) y) = memB (l.take (i + 1)) := by
  funext y
  unfold memB
  rw [List.take_add_one, hx, ← Bool.decide_or]
  congr 1
  simp only [Option.toList_some, List.mem_append, List.mem_singleton, eq_iff_iff]
  constructor
  · rintro (h | h)
    · exact .inr h
    · exact .inl h
  · rintro (h | h)
    · exact .inr h
    · exact .inl h
theorem api_two {k : Blk} {s : St} {w w1 w2 : World} {R : Nat} {ok : List Nd → Nat → Prop} {e : Ending} (h : ApiOut k s w1 R ok e w2) (hb : Below w.heap.size w w1) : ∃ x y : Int, e = .returned (.tuple #[.int .i64 x, .int .i64 y]) ∧ ApiOut k s w R ok e w2 := by
  obtain ⟨k', s1, r, h1, h2, h3, h4, h5, h6, h7⟩ := h
  have hx : ApiOut k s w R ok e w2 := ⟨k', s1, r, h1, h2, h3, (Turn.below hb).trans h4, h5, h6, h7⟩
  rcases h7 with ⟨_, h8, _⟩ | ⟨_, h8, _⟩
  · exact ⟨_, _, h8, hx⟩
  · exact ⟨_, _, h8, hx⟩
theorem box2 (w : World) (a b : Value) (ta tb : TypeId) : Below w.heap.size w ((w.alloc (.cells #[a] ta)).alloc (.cells #[b] tb)) ∧ ((w.alloc (.cells #[a] ta)).alloc (.cells #[b] tb)).heap[w.heap.size]? = some (.cells #[a] ta (0, 0)) ∧ ((w.alloc (.cells #[a] ta)).alloc (.cells #[b] tb)).heap[w.heap.size + 1]? = some (.cells #[b] tb (0, 0)) := by
  refine ⟨(((Below.refl _ w).alloc (Nat.le_refl _) _).alloc (by simp) _), heap_old (heap_new _ _), ?_⟩
  have := heap_new (w.alloc (.cells #[a] ta)) (.cells #[b] tb)
  rw [show (w.alloc (.cells #[a] ta)).heap.size = w.heap.size + 1 by simp] at this
  exact this

theorem zeroFlags : Try.zeroCells95 = Array.replicate 256 (.bool false) := by kernel_rfl
theorem flags_new (w : World) : Flags (w.alloc (.cells Try.zeroCells95 95)) w.heap.size (memB []) := by
  refine ⟨_, heap_new _ _, fun j hj => ?_⟩
  rw [zeroFlags, Array.getElem?_replicate, if_pos hj]
  rfl
set_option maxHeartbeats 4000000 in
set_option maxRecDepth 100000 in
theorem over_any (S : Nat → Bool) (J : Bool → Bool → Bool) (hJ : Joins J) (k : Blk) (s : St) (f t : Nat) (F : Env → Bool) (A : Option Addr) (c : Nat) (l : List Nat) (M : FuncId) (caps : Array Value) (w : World) (hA : Ar w k s) (ad : Adm s) (g1 : s.gi f = true) (d : Den S s.nd f t F) (hS : Src w A l.length c 1 ((encL l).map encI)) (hn : l.length ≤ maxLen) (hl : ∀ x ∈ l, x < s.vs)
    (hcall : ∀ (xs : Array Value) (w : World), (callFunc M xs).run Try.prog w = .ok (.enter M xs) w) (HJ : JoinOK S J k w M caps) (hm : s.m + nS S t * 2 ^ (nS S t + 2) + 2 ≤ 1000000000) :
    Calls Try.prog 44 #[.pointer (some ⟨k.p, 0, none⟩), .int .i64 f, .slice A l.length c, .func (.func M) #[] caps] w (ApiOut k s w (nS S t * 2 ^ (nS S t + 2) + 2) (fun nd' r => ∃ t', leB t t' ∧ Den S nd' r t' (overT J (memB l) F))) := by
  have hW := hA.wf
  have hnm := hA.nm
  have l1 := d.lt hW
  have hvs := ad.vs
  obtain ⟨hb2, x0, x1⟩ := box2 w (.pointer (some ⟨k.p, 0, none⟩)) (.func (.func M) #[] caps) 24 85
  have HF : Hid (∀ j, w.heap.size ≤ j → ¬ fp k j) := by
    obtain ⟨_, _, H, _⟩ := hA
    exact fun j hj hf => by have := H.lt j hf; omega
  obtain ⟨W, hWd⟩ : ∃ W, W = ((w.alloc (.cells #[.pointer (some ⟨k.p, 0, none⟩)] 24)).alloc (.cells #[.func (.func M) #[] caps] 85)) := ⟨_, rfl⟩
  rw [← hWd] at hb2 x0 x1
  have hsW : W.heap.size = w.heap.size + 2 := by rw [hWd]; simp
  have hbl := below_wide hb2 (bel_one W (.cells #[.int .i64 f] 3))
  have HC := hide (check_any k s [(f : Int)] W.heap.size _ (hA.below hbl) (cells1 W f) (by simp; omega) (by simp))
  rw [show [(f : Int)].length = 1 from rfl, gvn_all (s := s) (l := [(f : Int)]) (by simp [g1]), hsW] at HC
  have HK := hide (known_any k s A c (encL l) _ (hA.below hbl) (by rw [encL_len]; exact hS.below hbl) (by rw [encL_len]; exact hn))
  rw [encL_len, knownB_of hl] at HK
  have y0 : (W.alloc (.cells #[.int .i64 f] 3)).cell? ⟨w.heap.size, 0, none⟩ = some (.pointer (some ⟨k.p, 0, none⟩)) := cell_heap (heap_old x0) rfl
  have y9 : W.cell? ⟨w.heap.size, 0, none⟩ = some (.pointer (some ⟨k.p, 0, none⟩)) := cell_heap x0 rfl
  have HX0 := hide (heap_old (p := .cells #[.int .i64 f] 3) x0)
  have HX1 := hide (heap_old (p := .cells #[.int .i64 f] 3) x1)
  have HBL := hide hbl
  have HA := hide hA
  have HD := hide d
  have HAD := hide ad
  have HSR := hide hS
  have HL := hide hl
  have HJJ := hide HJ
  have HS := hide hsW
  have HCL := hide hcall
  generalize hR : nS S t * 2 ^ (nS S t + 2) + 2 = R at *
  have HR := hide hR
  unfold maxLen at hn
  clear hA g1 d hbl ad hb2 x0 x1 hsW hR hS hl HJ hcall
  subst hWd
  go_enter Try.func44, Try.ntmps44
  go_wp2_with fail
  refine HC.out.mono ?_
  rintro e w1 ⟨rfl, rfl⟩
  go_wp2_with fail
  refine HK.out.mono ?_
  rintro e w2 ⟨rfl, hb⟩
  have z0 := hide (heapB hb HX0.out)
  have z1 := hide (heapB hb HX1.out)
  have HB2 := hide (below_wide HBL.out hb)
  have s2 := HB2.out.size
  clear hb HX0 HX1 HC HK y0 y9
  go_wp2_with fail
  have hf0 := hide (flags_new w2)
  have hw3 := hide (bel_one w2 (.cells Try.zeroCells95 95))
  generalize w2.alloc (.cells Try.zeroCells95 95) = w3 at *
  go_loopw [13, 27] (fun _ j wr => ∃ i : Nat, j = .int .i64 i ∧ i ≤ l.length ∧ Below w2.heap.size w2 wr ∧ Flags wr w2.heap.size (memB (l.take i))) (fun _ j _ => l.length - (intOf j).toNat)
  case atStart => exact ⟨0, rfl, Nat.zero_le _, hw3.out, hf0.out⟩
  case round =>
    obtain ⟨i, rfl, hi, hB, hFl⟩ := hrel
    rcases Nat.lt_or_ge i l.length with hlt | hge
    · obtain ⟨x, hx⟩ : ∃ x, l[i]? = some x := ⟨_, List.getElem?_eq_getElem hlt⟩
      have d1 : decide (i < l.length) = true := by simpa using hlt
      have d2 : ((i : Int) < l.length) := by omega
      have hxs := HL.out x (List.mem_of_getElem? hx)
      obtain ⟨ad', rfl, hc⟩ := src_at (Src.below HSR.out (below_wide HB2.out hB)) (i := i) (x := (x : Int)) (by unfold encL; rw [List.getElem?_map, hx]; rfl)
      have hcl := hFl.cell (j := x) (by omega)
      have hfr : wr.frozen? ⟨w2.heap.size, x, none⟩ = false := by obtain ⟨cur, h1, _⟩ := hFl; exact frozen_heap h1
      have HB3 := hide (hB.setCell (p := ⟨w2.heap.size, x, none⟩) (Nat.le_refl _) (.bool true))
      have HF3 := hide (hFl.put (x := x))
      rw [memB_next hx] at HF3
      clear hB hFl
      go_wp2_with fail
      go_roundw
      case rel => exact ⟨i + 1, by go_num, by omega, HB3.out, HF3.out⟩
      case measure => simp [intOf]; omega
    · have e : i = l.length := by omega
      have d1 : decide (i < l.length) = false := by simp; omega
      subst e
      rw [List.take_length] at hFl
      have hb3 := (below_wide HB2.out hB).drew
      have z0' := heapB hB z0.out
      have z1' := heapB hB z1.out
      have hA3 := HA.out.below hb3
      have k2 : wr.drew.cell? ⟨w.heap.size, 0, none⟩ = some (.pointer (some ⟨k.p, 0, none⟩)) := cell_heap z0' rfl
      have k3' : wr.drew.cell? ⟨w.heap.size + 1, 0, none⟩ = some (.func (.func M) #[] caps) := cell_heap z1' rfl
      have HE := hide (each_any S (fun _ => S) leB (overT J (memB l)) k s _ _ f t F wr.drew hA3 HD.out (over_made S J hJ (memB l) s.nd k wr.drew M caps w2.heap.size (w.heap.size + 1) w.heap.size HCL.out (hFl.kept rfl) k3' k2 (HF.out _ (by omega)) (HF.out _ (by omega)) (HF.out _ (by omega)) (HJJ.out.turn (Turn.below (k := k) hb3))) call_over (Nat.le_refl _) (overT_free hJ (fun _ _ => rfl)) (overT_free hJ (fun _ _ => rfl)) (by have := HR.out; omega))
      rw [HR.out] at HE
      have hmR : s.m + R ≤ 1000000000 := by have := HR.out; omega
      have HB4 := hide hb3
      have hnf := HF.out w.heap.size (by omega)
      have hlt' : w.heap.size < wr.drew.heap.size := lt_of_cell k2
      clear hb3 hA3 z0' z1' k3' hB hFl
      have hwr : IntKind.i32.wrap (f : Int) = f := wrap3 (by omega) (by omega)
      go_wp2_with fail
      go_region_held3 (fun w' => w'.cell? ⟨w.heap.size, 0, none⟩ = some (.pointer (some ⟨k.p, 0, none⟩)))
        (first | exact k2 | exact k3 | exact k4)
        (first
          | (go_at_call 38; (with_reducible refine HE.out.mono ?_); intro e w3 hh; unfold NodeOut at hh; obtain ⟨k1, s1, r, he, hA3, T3, U3, m3, o3⟩ := hh; subst he; have k3 := T3.cell k2 hnf; have HA3 := hide hA3; have HT3 := hide T3; have HU3 := hide U3; have HM3 := hide m3; have HO3 := hide o3; clear hA3 T3 U3 m3 o3)
          | (go_at_call 37; (with_reducible refine (give_call HA3.out HO3.out HM3.out hmR HU3.out HAD.out HT3.out.p).mono ?_); intro e w4 hg; obtain ⟨x, y, he, T4⟩ := give_two hg; subst he; have k4 := T4.cell k3 (HT3.out.fpn hlt' hnf); have HX := hide (api_call HU3.out HM3.out HO3.out ((Turn.below (k := k) HB4.out).trans HT3.out) HA3.out.wf hg); clear hg T4))
      all_goals (
        go_wp2_with fail
        go_ret2
        exact HX.out)
theorem src_encL {w : World} {A : Option Addr} {c : Nat} {l : List Nat} (h : Src w A l.length c 1 ((encL l).map encI)) {w' : World} (hb : Below w.heap.size w w') : Src w' A l.length c 1 ((encL l).map encI) := h.below hb

set_option maxRecDepth 100000 in
theorem Exists_any (S : Nat → Bool) (k : Blk) (s : St) (f t : Nat) (F : Env → Bool) (A : Option Addr) (c : Nat) (l : List Nat) (w : World) (hA : Ar w k s) (ad : Adm s) (g1 : s.gi f = true) (d : Den S s.nd f t F) (hS : Src w A l.length c 1 ((encL l).map encI)) (hn : l.length ≤ maxLen) (hl : ∀ x ∈ l, x < s.vs) (hm : s.m + nS S t * 2 ^ (nS S t + 2) + 2 ≤ 1000000000) :
    Calls Try.prog 25 #[.pointer (some ⟨k.p, 0, none⟩), .int .i64 f, .slice A l.length c] w (ApiOut k s w (nS S t * 2 ^ (nS S t + 2) + 2) (fun nd' r => ∃ t', leB t t' ∧ Den S nd' r t' (overT (fun a b => a || b) (memB l) F))) := by
  have hb := bel_one w (.cells #[.pointer (some ⟨k.p, 0, none⟩)] 24)
  have hnf : ¬ fp k w.heap.size := by
    obtain ⟨_, _, H, _⟩ := hA
    exact fun hf => by have := H.lt _ hf; omega
  have HC := hide (over_any S _ joins_or k s f t F A c l _ _ _ (hA.below hb) ad g1 d (hS.below hb) hn hl call_exists (exists_join S k _ w.heap.size (cell_heap (heap_new _ _) rfl) hnf) hm)
  have y0 : (w.alloc (.cells #[.pointer (some ⟨k.p, 0, none⟩)] 24)).cell? ⟨w.heap.size, 0, none⟩ = some (.pointer (some ⟨k.p, 0, none⟩)) := cell_heap (heap_new _ _) rfl
  have HB := hide hb
  generalize nS S t * 2 ^ (nS S t + 2) + 2 = R at *
  clear hA ad g1 d hS hn hl hm hb
  go_enter Try.func25, Try.ntmps25
  go_wp2_with fail
  refine HC.out.mono ?_
  intro e w1 hh
  obtain ⟨x, y, he, HX⟩ := api_two hh HB.out
  subst he
  have HX := hide HX
  clear hh
  go_wp2_with fail
  go_ret2
  exact HX.out
set_option maxRecDepth 100000 in
theorem Forall_any (S : Nat → Bool) (k : Blk) (s : St) (f t : Nat) (F : Env → Bool) (A : Option Addr) (c : Nat) (l : List Nat) (w : World) (hA : Ar w k s) (ad : Adm s) (g1 : s.gi f = true) (d : Den S s.nd f t F) (hS : Src w A l.length c 1 ((encL l).map encI)) (hn : l.length ≤ maxLen) (hl : ∀ x ∈ l, x < s.vs) (hm : s.m + nS S t * 2 ^ (nS S t + 2) + 2 ≤ 1000000000) :
    Calls Try.prog 26 #[.pointer (some ⟨k.p, 0, none⟩), .int .i64 f, .slice A l.length c] w (ApiOut k s w (nS S t * 2 ^ (nS S t + 2) + 2) (fun nd' r => ∃ t', leB t t' ∧ Den S nd' r t' (overT (fun a b => a && b) (memB l) F))) := by
  have hb := bel_one w (.cells #[.pointer (some ⟨k.p, 0, none⟩)] 24)
  have hnf : ¬ fp k w.heap.size := by
    obtain ⟨_, _, H, _⟩ := hA
    exact fun hf => by have := H.lt _ hf; omega
  have HC := hide (over_any S _ joins_and k s f t F A c l _ _ _ (hA.below hb) ad g1 d (hS.below hb) hn hl call_forall (forall_join S k _ w.heap.size (cell_heap (heap_new _ _) rfl) hnf) hm)
  have y0 : (w.alloc (.cells #[.pointer (some ⟨k.p, 0, none⟩)] 24)).cell? ⟨w.heap.size, 0, none⟩ = some (.pointer (some ⟨k.p, 0, none⟩)) := cell_heap (heap_new _ _) rfl
  have HB := hide hb
  generalize nS S t * 2 ^ (nS S t + 2) + 2 = R at *
  clear hA ad g1 d hS hn hl hm hb
  go_enter Try.func26, Try.ntmps26
  go_wp2_with fail
  refine HC.out.mono ?_
  intro e w1 hh
  obtain ⟨x, y, he, HX⟩ := api_two hh HB.out
  subst he
  have HX := hide HX
  clear hh
  go_wp2_with fail
  go_ret2
  exact HX.out
end Go.Proofs.Ytgfjdkkfgclhjaa.Bd
