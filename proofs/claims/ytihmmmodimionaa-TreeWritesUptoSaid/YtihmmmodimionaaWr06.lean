/- What the claim leans on, part 6 of 16: UA UB UC UD UE UF UG UH UI UJ. -/
import Derived.Carry
import Derived.Laws.EntriesVeiled
import Derived.Laws.OwnMore
import Derived.MapKept
import Derived.Shelf.RegionOpenPlain
import Derived.Test.YtihmmmodimionaaWr01
import Derived.Test.YtihmmmodimionaaWr02
import Derived.Test.YtihmmmodimionaaWr03
import Derived.Test.YtihmmmodimionaaWr04
import Derived.Test.YtihmmmodimionaaWr05
/- Copies of statements: twin, twins. -/
namespace Go.Proofs.Ytihmmmodimionaa.Tr
open Go.RowKit Go.Proofs.Ytihmmmodimionaa Go.Proofs.Ytihmmmodimionaa.Lx

/-- how many words, places and statements there are -/
def szF : Fo → Nat
  | .nil => 0
  | .cons ws ps _ K R => ws.length + ps.length + 1 + szF K + szF R
/-- each statement has words, and places -/
def Gd : Fo → Prop
  | .nil => True
  | .cons ws ps _ K R => 1 ≤ ws.length ∧ 1 ≤ ps.length ∧ Gd K ∧ Gd R
theorem len_sz : ∀ F : Fo, F.len ≤ szF F
  | .nil => by simp [Fo.len]
  | .cons ws ps _ K R => by
    have := len_sz R
    show R.len + 1 ≤ ws.length + ps.length + 1 + szF K + szF R
    omega
theorem own_grow {w w' : World} {base size n : Nat} {e : TypeId} {v : Value} {xs : List Value} {row : Option Nat} (h : w.ownsRow base e size v n xs) (hg : w.grownBy w' row) (hr : ∀ b, row = some b → b < base) : w'.ownsRow base e size v n xs :=
  own_kept h hg (fun g e hb => by have h1 := hr g e; have h2 := (h.lt g hb).1; omega)
/-- a statement of its own, laid in a new row -/
theorem lo_one {w x : World} {ws : List ByteArray} {ps : List (Int × Int)} {vw vp vk : Value} {K : Fo} {ys : List Value} {D : Nat → Prop} (b : Bool) (hx : w.heap.size ≤ x.heap.size) (how : x.ownsRow w.heap.size 9 1 vw ws.length (ws.map Value.string)) (hop : x.ownsRow w.heap.size 24 2 vp ps.length (posC ps)) (hk : Lo w x vk K ys D) :
    Lo w (x.alloc (NodeC vw vp b vk)) (.slice (some ⟨x.heap.size, 0, none⟩) 1 1) (.cons ws ps b K .nil) [vw, vp, .bool b, vk] (fun q => vw.ownBlock = some q ∨ vp.ownBlock = some q ∨ vk.ownBlock = some q ∨ D q) := by
  have hbl := bel_one x (NodeC vw vp b vk)
  obtain ⟨Aw, cw, rfl⟩ := own_slice how
  obtain ⟨Ap, cp, rfl⟩ := own_slice hop
  obtain ⟨A, c, rfl⟩ := own_slice hk.own
  have hlt : ∀ q, ((Value.slice Aw ws.length cw).ownBlock = some q ∨ (Value.slice Ap ps.length cp).ownBlock = some q ∨ (Value.slice A K.len c).ownBlock = some q ∨ D q) → w.heap.size ≤ q ∧ q < x.heap.size := by
    rintro q (h | h | h | h)
    · exact own_lt how h
    · exact own_lt hop h
    · exact own_lt hk.own h
    · exact ⟨(hk.hB q h).1, (hk.hB q h).2.1⟩
  refine ⟨⟨rfl, .inr ⟨x.heap.size, 1, _, rfl, hx, heap_new x _, Nat.le_refl _, by decide, rfl, rfl⟩⟩, ?_, fun q hq => ⟨(hlt q hq).1, by simp; have := (hlt q hq).2; omega, fun e => ?_⟩⟩
  · exact ⟨_, _, A, c, ys, [], rfl, ⟨Aw, cw, rfl, (own_src how).below hbl, fun a ha => ⟨.inl (by rw [ha]; rfl), (own_caps how).1⟩⟩, ⟨Ap, cp, rfl, (own_src hop).below hbl, fun a ha => .inr (.inl (by rw [ha]; rfl))⟩, (own_src hk.own).below hbl, fun a ha => .inr (.inr (.inl (by rw [ha]; rfl))), (hk.fo.keep (fun q hq => hbl.block q (hk.hB q hq).2.1)).mono (fun q hq => .inr (.inr (.inr hq))), rfl⟩
  · have h2 := (hlt q hq).2
    have e' : x.heap.size = q := by injection e
    omega
theorem src_spot {x : World} {A : Option Addr} {n c size : Nat} {xs : List Value} (h : Src x A n c size xs) (hn : 1 ≤ n) (hs : 1 ≤ size) : ∃ b o, A = some ⟨b, o, none⟩ := by
  obtain ⟨hl, ⟨_, h2, _⟩ | ⟨ad, rfl, h3⟩⟩ := h
  · omega
  · have hp : 0 < xs.length := by rw [hl]; exact Nat.mul_pos hn hs
    have := World.cell?_spot (h3 0 xs[0] (List.getElem?_eq_getElem hp))
    obtain ⟨b, o, s⟩ := ad
    cases this
    exact ⟨b, o, rfl⟩
theorem src_cells {x : World} {b o n c size : Nat} {xs : List Value} (h : Src x (some ⟨b, o, none⟩) n c size xs) : ∀ j u, xs[j]? = some u → x.cell? ⟨b, o + j, none⟩ = some u := by
  intro j u hj
  obtain ⟨_, ⟨h1, _⟩ | ⟨ad, h1, h3⟩⟩ := h
  · cases h1
  · cases h1
    have := h3 j u hj
    rwa [Addr.add_lit] at this
theorem clone_str (ws : List ByteArray) {A : Option Addr} {c : Nat} (x : World) (h : Src x A ws.length c 1 (ws.map Value.string)) (h1 : 1 ≤ ws.length) (h2 : ws.length ≤ 1099511627776) :
    Calls Try.prog 68 #[.slice A ws.length c] x fun e x' => ∃ v', e = .returned v' ∧ x'.ownsRow x.heap.size 9 1 v' ws.length (ws.map Value.string) ∧ Below x.heap.size x x' := by
  obtain ⟨b, o, rfl⟩ := src_spot h h1 (Nat.le_refl _)
  refine (Try.slices_Clone_string b o ws.length c ws x (Nat.le_refl _) (by omega) (fun j hj => ?_)).mono ?_
  · have := src_cells h j (.string ws[j]) (by rw [List.getElem?_map, List.getElem?_eq_getElem hj]; rfl)
    rw [this]
    simp [List.getD_eq_getElem?_getD, hj]
  · rintro e x' ⟨v', rfl, ho, _, hb⟩
    refine ⟨v', rfl, ?_, hb⟩
    rw [List.take_of_length_le (Nat.le_refl _)] at ho
    exact ho
theorem clone_posc (ps : List (Int × Int)) {A : Option Addr} {c : Nat} (x : World) (h : Src x A ps.length c 2 (posC ps)) (h1 : 1 ≤ ps.length) (h2 : ps.length ≤ 1099511627776) :
    Calls Try.prog 69 #[.slice A ps.length c] x fun e x' => ∃ v', e = .returned v' ∧ x'.ownsRow x.heap.size 24 2 v' ps.length (posC ps) ∧ Below x.heap.size x x' := by
  obtain ⟨b, o, rfl⟩ := src_spot h h1 (by decide)
  obtain ⟨qi, qz0, qz, qs, qb⟩ := info_parts infoP
  refine (AnyE.slices_Clone Try.laysClonePos qi _ 2 16 qz0 qz qs qb rfl (by decide) Try.sizeOf24 b o ps.length c (posC ps) x (posC_len ps) (by unfold maxLen; omega) (by omega) (src_cells h) ?_).mono ?_
  · intro u hu
    unfold posC at hu
    obtain ⟨q, _, hq⟩ := List.mem_flatMap.1 hu
    simp at hq
    rcases hq with rfl | rfl <;> rfl
  · rintro e x' ⟨v', rfl, ho, _, hb⟩
    exact ⟨v', rfl, ho, hb⟩
/-- what twin and twins hand back -/
structure TwR (w w' : World) (ws : List ByteArray) (ps : List (Int × Int)) (K : Fo) (vw vp vk : Value) (ys : List Value) (B : Nat → Prop) : Prop where
  b : Below w.heap.size w w'
  ow : w'.ownsRow w.heap.size 9 1 vw ws.length (ws.map Value.string)
  op : w'.ownsRow w.heap.size 24 2 vp ps.length (posC ps)
  k : Lo w w' vk K ys B
def TwinOut (ws : List ByteArray) (ps : List (Int × Int)) (blk : Bool) (K : Fo) (w : World) (e : Ending) (w' : World) : Prop :=
  ∃ vw vp vk ys B, e = .returned (.agg #[vw, vp, .bool blk, vk]) ∧ TwR w w' ws ps K vw vp vk ys B
def TwinsOut (F : Fo) (w : World) (e : Ending) (w' : World) : Prop :=
  Below w.heap.size w w' ∧ ∃ v ys B, e = .returned v ∧ Lo w w' v F ys B
structure BX (g : Nat) (vw vp : Value) (b : Bool) (vk : Value) (x : World) : Prop where
  h : x.heap[g]? = some (.cells #[vw, vp, .bool b, vk] 44 (0, 0))
theorem BX.below {g : Nat} {vw vp vk : Value} {b : Bool} {x y : World} (h : BX g vw vp b vk x) (hb : Below x.heap.size x y) : BX g vw vp b vk y := ⟨heapB hb h.h⟩
set_option maxHeartbeats 4000000 in
set_option maxRecDepth 100000 in
theorem twin_walk (ws : List ByteArray) (ps : List (Int × Int)) (blk : Bool) (K : Fo) (Aw Ap Ak : Option Addr) (cw cp ck : Nat) (w : World) (hws : Src w Aw ws.length cw 1 (ws.map Value.string)) (hps : Src w Ap ps.length cp 2 (posC ps)) (h1 : 1 ≤ ws.length) (h2 : 1 ≤ ps.length) (h3 : ws.length ≤ 1099511627776) (h4 : ps.length ≤ 1099511627776)
    (HK : Hid (∀ x, Below w.heap.size w x → Calls Try.prog 39 #[.slice Ak K.len ck] x (TwinsOut K x))) :
    Calls Try.prog 42 #[.agg #[.slice Aw ws.length cw, .slice Ap ps.length cp, .bool blk, .slice Ak K.len ck]] w (TwinOut ws ps blk K w) := by
  have hb0 := below_wide (bel_one w (NodeC (.slice Aw ws.length cw) (.slice Ap ps.length cp) blk (.slice Ak K.len ck))) (bel_one (w.alloc (NodeC (.slice Aw ws.length cw) (.slice Ap ps.length cp) blk (.slice Ak K.len ck))) (NodeC (.slice none 0 0) (.slice none 0 0) false (.slice none 0 0)))
  have hbx : BX w.heap.size (.slice Aw ws.length cw) (.slice Ap ps.length cp) blk (.slice Ak K.len ck) ((w.alloc (NodeC (.slice Aw ws.length cw) (.slice Ap ps.length cp) blk (.slice Ak K.len ck))).alloc (NodeC (.slice none 0 0) (.slice none 0 0) false (.slice none 0 0))).drew := ⟨heap_old (heap_new w _)⟩
  have hrx : BX (w.heap.size + 1) (.slice none 0 0) (.slice none 0 0) false (.slice none 0 0) ((w.alloc (NodeC (.slice Aw ws.length cw) (.slice Ap ps.length cp) blk (.slice Ak K.len ck))).alloc (NodeC (.slice none 0 0) (.slice none 0 0) false (.slice none 0 0))).drew := ⟨heap_new2 w _ _⟩
  have HB0 := hide hb0.drew
  have HBX := hide hbx
  have HRX := hide hrx
  have HSZ := hide (show ((w.alloc (NodeC (.slice Aw ws.length cw) (.slice Ap ps.length cp) blk (.slice Ak K.len ck))).alloc (NodeC (.slice none 0 0) (.slice none 0 0) false (.slice none 0 0))).drew.heap.size = w.heap.size + 2 from by simp)
  have k0 := fun x => cell_heap (j := 0) (pin_in hbx x).h rfl
  have k1 := fun x => cell_heap (j := 1) (pin_in hbx x).h rfl
  have k3 := fun x => cell_heap (j := 3) (pin_in hbx x).h rfl
  have HWS := hide hws
  have HPS := hide hps
  clear hb0 hbx hrx hws hps
  go_enter Try.func42, Try.ntmps42
  go_wp2_with fail
  refine wp_region_tree (BX w.heap.size (.slice Aw ws.length cw) (.slice Ap ps.length cp) blk (.slice Ak K.len ck)) (fun k => ([10, 11, 12, 13, 14] : List Nat).contains k) (.take [0, 1, 3, 4, 6, 7] (.step 2 (.take [9] (.step 5 (.step 8 (.step 10 (.step 11 (.step 12 (.step 13 (.step 14 .done)))))))))) (by kernel_rfl) (by kernel_rfl) (by kernel_rfl) (by kernel_rfl) (.take (.cons (.zero) (.cons (.succ (.zero)) (.cons (.succ (.succ (.succ (.zero)))) (.cons (.succ (.succ (.succ (.succ (.zero))))) (.cons (.succ (.succ (.succ (.succ (.succ (.succ (.zero))))))) (.cons (.succ (.succ (.succ (.succ (.succ (.succ (.succ (.zero)))))))) .nil)))))) (.step (.succ (.succ (.zero))) rfl (.take (.cons (.succ (.succ (.succ (.succ (.succ (.succ (.succ (.succ (.succ (.zero)))))))))) .nil) (.step (.succ (.succ (.succ (.succ (.succ (.zero)))))) rfl (.step (.succ (.succ (.succ (.succ (.succ (.succ (.succ (.succ (.zero))))))))) rfl (.step (.succ (.succ (.succ (.succ (.succ (.succ (.succ (.succ (.succ (.succ (.zero))))))))))) rfl (.step (.succ (.succ (.succ (.succ (.succ (.succ (.succ (.succ (.succ (.succ (.succ (.zero)))))))))))) rfl (.step (.succ (.succ (.succ (.succ (.succ (.succ (.succ (.succ (.succ (.succ (.succ (.succ (.zero))))))))))))) rfl (.step (.succ (.succ (.succ (.succ (.succ (.succ (.succ (.succ (.succ (.succ (.succ (.succ (.succ (.zero)))))))))))))) rfl (.step (.succ (.succ (.succ (.succ (.succ (.succ (.succ (.succ (.succ (.succ (.succ (.succ (.succ (.succ (.zero))))))))))))))) rfl .done)))))))))) ?hQ ?hS ?_
  case hQ => exact fun _ _ _ _ _ h => h
  case hS => exact HBX.out
  refine wpT_take ?_
  repeat (first | go_big_quiet_step ((fail)) | quiet_step ((fail)))
  refine wpQuiet_nil ?_
  generalize ((w.alloc (NodeC (.slice Aw ws.length cw) (.slice Ap ps.length cp) blk (.slice Ak K.len ck))).alloc (NodeC (.slice none 0 0) (.slice none 0 0) false (.slice none 0 0))).drew = x0 at *
  refine wpT_step rfl ?_
  intro K1 hK1
  go_wp2_with fail
  refine (clone_str ws x0 (HWS.out.below HB0.out) h1 h3).mono ?_
  rintro e x1 ⟨vw, rfl, hw1, hb1⟩
  have HB1 := hide (below_lo HB0.out hb1 (by have := HSZ.out; omega))
  have HX1 := hide (HBX.out.below hb1)
  have HR1 := hide (HRX.out.below hb1)
  have HW1 := hide hw1
  have HS1 := hide (show w.heap.size + 2 ≤ x1.heap.size from by have h1 := HSZ.out; have h2 := hb1.size; omega)
  obtain ⟨Bw, dw, rfl⟩ := own_slice hw1
  clear hb1 hw1
  refine hK1.out _ _ (fun _ => pin_mem HX1.out) ?_
  clear hK1
  refine wpT_take ?_
  repeat (first | go_big_quiet_step ((fail)) | quiet_step ((fail)))
  refine wpQuiet_nil ?_
  refine wpT_step rfl ?_
  intro K1 hK1
  go_wp2_with fail
  refine (clone_posc ps x1 (HPS.out.below HB1.out) h2 h4).mono ?_
  rintro e x2 ⟨vp, rfl, hp2, hb2⟩
  have HB2 := hide (below_lo HB1.out hb2 (by have := HS1.out; omega))
  have HX2 := hide (HX1.out.below hb2)
  have HR2 := hide (HR1.out.below hb2)
  have HW2 := hide (own_belw HW1.out hb2)
  have HP2 := hide hp2
  have HS2 := hide (Nat.le_trans HS1.out hb2.size)
  obtain ⟨Bp, dp, rfl⟩ := own_slice hp2
  clear hb2 hp2
  refine hK1.out _ _ (fun _ => pin_mem HX2.out) ?_
  clear hK1
  have HTW := hide (HK.out x2 HB2.out)
  refine wpT_step rfl ?_
  intro K1 hK1
  go_wp2_with fail
  refine HTW.out.mono ?_
  rintro e x3 ⟨hb3, vk, ys, B, rfl, hl3⟩
  have HB3 := hide (below_lo HB2.out hb3 (by have := HS2.out; omega))
  have HX3 := hide (HX2.out.below hb3)
  have HR3 := hide (HR2.out.below hb3)
  have HW3 := hide (own_belw HW2.out hb3)
  have HP3 := hide (own_belw HP2.out hb3)
  have HL3 := hide hl3
  have HS3 := hide (Nat.le_trans HS2.out hb3.size)
  obtain ⟨Bk, dk, rfl⟩ := own_slice hl3.own
  have c0 := cell_heap (j := 0) HX3.out.h rfl
  have f0 := frozen_heap (j := 0) HX3.out.h
  clear hb3 hl3 HTW k0 k1 k3
  refine hK1.out _ _ (fun _ => pin_mem HX3.out) ?_
  clear hK1
  refine wpT_step rfl ?_
  intro K1 hK1
  go_wp2_with fail
  refine hK1.out _ _ (fun h => by cases h) ?_
  clear hK1
  have g1 := heap_set (j := 0) (u := .slice Bw ws.length dw) HX3.out.h
  have c1 := cell_heap (j := 1) g1 rfl
  have f1 := frozen_heap (j := 1) g1
  clear c0 f0
  refine wpT_step rfl ?_
  intro K1 hK1
  go_wp2_with fail
  refine hK1.out _ _ (fun h => by cases h) ?_
  clear hK1
  refine wpT_step rfl ?_
  intro K1 hK1
  go_wp2_with fail
  refine hK1.out _ _ (fun h => by cases h) ?_
  clear hK1
  have g2 := heap_set (j := 1) (u := .slice Bp ps.length dp) g1
  have c3 := cell_heap (j := 3) g2 rfl
  have f3 := frozen_heap (j := 3) g2
  clear c1 f1
  refine wpT_step rfl ?_
  intro K1 hK1
  go_wp2_with fail
  refine hK1.out _ _ (fun h => by cases h) ?_
  clear hK1
  refine wpT_step rfl ?_
  intro K1 hK1
  go_wp2_with fail
  refine hK1.out _ _ (fun h => by cases h) ?_
  clear hK1 c3 f3
  refine wpT_done ?_
  have g3 := heap_set (j := 3) (u := .slice Bk K.len dk) g2
  have HOX := hide (only_set (only_set (only_set (only_refl w.heap.size x3) 0 (.slice Bw ws.length dw)) 1 (.slice Bp ps.length dp)) 3 (.slice Bk K.len dk))
  have HG3 := hide g3
  have HR4 := hide (only_heap HOX.out HR3.out.h (by omega))
  generalize ((x3.setCell ⟨w.heap.size, 0, none⟩ (.slice Bw ws.length dw)).setCell ⟨w.heap.size, 1, none⟩ (.slice Bp ps.length dp)).setCell ⟨w.heap.size, 3, none⟩ (.slice Bk K.len dk) = x4 at *
  clear g1 g2 g3
  have c0 := cell_heap (j := 0) HG3.out rfl
  have c1 := cell_heap (j := 1) HG3.out rfl
  have c2 := cell_heap (j := 2) HG3.out rfl
  have c3 := cell_heap (j := 3) HG3.out rfl
  have r0 := cell_heap (j := 0) HR4.out rfl
  have r1 := cell_heap (j := 1) HR4.out rfl
  have r2 := cell_heap (j := 2) HR4.out rfl
  have r3 := cell_heap (j := 3) HR4.out rfl
  have rf0 := frozen_heap (j := 0) HR4.out
  have rf1 := frozen_heap (j := 1) HR4.out
  have rf2 := frozen_heap (j := 2) HR4.out
  have rf3 := frozen_heap (j := 3) HR4.out
  go_wp2_with fail
  have hq := heap_set (j := 3) (u := .slice Bk K.len dk) (heap_set (j := 2) (u := .bool blk) (heap_set (j := 1) (u := .slice Bp ps.length dp) (heap_set (j := 0) (u := .slice Bw ws.length dw) HR4.out)))
  have HOY := hide (only_set (only_set (only_set (only_set (only_refl (w.heap.size + 1) x4) 0 (.slice Bw ws.length dw)) 1 (.slice Bp ps.length dp)) 2 (.bool blk)) 3 (.slice Bk K.len dk))
  generalize (((x4.setCell ⟨w.heap.size + 1, 0, none⟩ (.slice Bw ws.length dw)).setCell ⟨w.heap.size + 1, 1, none⟩ (.slice Bp ps.length dp)).setCell ⟨w.heap.size + 1, 2, none⟩ (.bool blk)).setCell ⟨w.heap.size + 1, 3, none⟩ (.slice Bk K.len dk) = x5 at *
  have q0 := cell_heap (j := 0) hq rfl
  have q1 := cell_heap (j := 1) hq rfl
  have q2 := cell_heap (j := 2) hq rfl
  have q3 := cell_heap (j := 3) hq rfl
  refine bodyPost_ret (v := .agg #[.slice Bw ws.length dw, .slice Bp ps.length dp, .bool blk, .slice Bk K.len dk]) (by simp [results, Try.results42, go_sem, q0, q1, q2, q3]) rfl ?_
  have s0 := HSZ.out
  have s1 := HS1.out
  refine ⟨_, _, _, ys, B, rfl, ⟨below_only (below_only HB3.out HOX.out (Nat.le_refl _) HB3.out.size) HOY.out (by omega) (Nat.le_trans HB3.out.size HOX.out.size), ?_, ?_, ?_⟩⟩
  · exact own_base (own_grow (own_grow HW3.out HOX.out (fun b e => by injection e with e; omega)) HOY.out (fun b e => by injection e with e; omega)) (by omega)
  · exact own_base (own_grow (own_grow HP3.out HOX.out (fun b e => by injection e with e; omega)) HOY.out (fun b e => by injection e with e; omega)) (by omega)
  · have h2 := HS2.out
    exact ((HL3.out.grow HOX.out (fun b e => by injection e with e; omega)).grow HOY.out (fun b e => by injection e with e; omega)).base (by omega)
end Go.Proofs.Ytihmmmodimionaa.Tr
/- Copies of statements: twins. -/
namespace Go.Proofs.Ytihmmmodimionaa.Tr
open Go.RowKit Go.Proofs.Ytihmmmodimionaa Go.Proofs.Ytihmmmodimionaa.Lx

structure TwL (w wr : World) (va : Value) (F : Fo) (i : Nat) (Fd R : Fo) (ys xs : List Value) (B D : Nat → Prop) : Prop where
  bl : Below w.heap.size w wr
  lo : Lo w wr va Fd ys B
  fo : FoV w D R (xs.drop (i * 4))
  len : i + R.len = F.len
  dl : Fd.len = i
  nodes : R.nodes ≤ F.nodes
  sz : szF R ≤ szF F
  gd : Gd R
  eq : Fd.app R = F
theorem app_cons (Fd R : Fo) (ws : List ByteArray) (ps : List (Int × Int)) (blk : Bool) (K : Fo) : (Fd.app (.cons ws ps blk K .nil)).app R = Fd.app (.cons ws ps blk K R) := by
  rw [Fo.app_assoc]; rfl
set_option maxHeartbeats 4000000 in
set_option maxRecDepth 100000 in
theorem twins_any : ∀ (n : Nat) (F : Fo), F.nodes = n → ∀ (A : Option Addr) (c : Nat) (xs : List Value) (D : Nat → Prop) (w : World), Src w A F.len c 4 xs → FoV w D F xs → (∀ q, D q → q < w.heap.size) → (∀ a, A = some a → a.block < w.heap.size) → szF F ≤ 1099511627776 → Gd F →
    Calls Try.prog 39 #[.slice A F.len c] w (TwinsOut F w) := by
  intro n
  induction n using Nat.strongRecOn with
  | _ n ih =>
  intro F hn A c xs D w hs hf hD hA hsz hgd
  obtain ⟨ni, nz0, nz, ns, nb⟩ := info_parts infoN
  have HIH := hide ih
  have HS := hide hs
  have HST := hide (show TwL w w (.slice none 0 0) F 0 .nil F [] xs (fun _ => False) D from ⟨Below.refl _ _, lo_start w, by simpa using hf, by simp, rfl, Nat.le_refl _, Nat.le_refl _, hgd, rfl⟩)
  have hlF := len_sz F
  have hFl : F.len ≤ 1099511627776 := by omega
  have HD := hide hD
  have HA := hide hA
  have HN := hide hn
  have HZ := hide hsz
  clear hs hf hD hA hsz hgd ih hn hlF
  go_enter Try.func39, Try.ntmps39
  go_wp2_with fail
  go_loopw [3, 8] (fun va j wr => ∃ (i : Nat) (Fd R : Fo) (ys : List Value) (B : Nat → Prop), j = .int .i64 i ∧ TwL w wr va F i Fd R ys xs B D) (fun _ j _ => F.len - (intOf j).toNat)
  case atStart => exact ⟨0, .nil, F, [], _, rfl, HST.out⟩
  case round =>
    clear HST
    obtain ⟨i, Fd, R, zs, B, rfl, hX⟩ := hrel
    obtain ⟨Av, cv, rfl⟩ := own_slice hX.lo.own
    have hdl : Fd.len = i := hX.dl
    have HX := hide hX
    clear hX
    cases R with
    | nil =>
      have hi : i = F.len := by have := HX.out.len; simpa [Fo.len] using this
      have d1 : decide (i < F.len) = false := decide_eq_false (by omega)
      have d1' : decide ((i : Int) < (F.len : Int)) = false := decide_eq_false (by omega)
      have he : Fd = F := by have := HX.out.eq; rwa [Fo.app_nil] at this
      have HL := hide (show Lo w wr (.slice Av Fd.len cv) F zs B from by rw [← he]; exact HX.out.lo)
      clear hi he hdl
      go_wp2_with fail
      go_ret
      exact ⟨HX.out.bl, _, _, _, rfl, HL.out⟩
    | cons ws ps blk K R =>
      have hlen : i + (R.len + 1) = F.len := HX.out.len
      have d1 : decide (i < F.len) = true := decide_eq_true (by omega)
      have d1' : decide ((i : Int) < (F.len : Int)) = true := decide_eq_true (by omega)
      have d2 : ((i : Int) < (F.len : Int)) := by omega
      obtain ⟨vw, vp, Ak, ck, ys, g0, g1, g2, g3, hvw, hvp, hks, hkA, hkF, hRF⟩ := drop_fo HX.out.fo
      obtain ⟨ab, ao, rfl⟩ := src_spot HS.out (by omega) (by decide)
      have hsc := src_cells HS.out
      have hadB := HA.out _ rfl
      have c0 := cell_lo HX.out.bl (a := ⟨ab, ao + i * 4, none⟩) hadB (hsc _ _ g0)
      have c1 := cell_lo HX.out.bl (a := ⟨ab, ao + i * 4 + 1, none⟩) hadB (by rw [Nat.add_assoc]; exact hsc _ _ g1)
      have c2 := cell_lo HX.out.bl (a := ⟨ab, ao + i * 4 + 2, none⟩) hadB (by rw [Nat.add_assoc]; exact hsc _ _ g2)
      have c3 := cell_lo HX.out.bl (a := ⟨ab, ao + i * 4 + 3, none⟩) hadB (by rw [Nat.add_assoc]; exact hsc _ _ g3)
      obtain ⟨Aw, cw, rfl, hws, hwB⟩ := hvw
      obtain ⟨Ap, cp, rfl, hps, hpB⟩ := hvp
      have hno : Fo.nodes (.cons ws ps blk K R) = K.nodes + R.nodes + 1 := rfl
      have HNO := hide (show K.nodes < n ∧ R.nodes ≤ F.nodes from by have h1 := HX.out.nodes; have h2 := HN.out; omega)
      have hszR : szF (.cons ws ps blk K R) = ws.length + ps.length + 1 + szF K + szF R := rfl
      have hszb : ws.length + ps.length + 1 + szF K + szF R ≤ 1099511627776 := by have h1 := HX.out.sz; have h2 := HZ.out; omega
      have HSR := hide (show szF R ≤ szF F from by have h1 := HX.out.sz; omega)
      have hg := HX.out.gd
      have HGR := hide hg.2.2.2
      have hkl : K.len ≤ 1099511627776 := by have h1 := len_sz K; omega
      have hwl : ws.length ≤ 1099511627776 := by omega
      have hpl : ps.length ≤ 1099511627776 := by omega
      have HRF := hide hRF
      have HLEN := hide hlen
      have hb1 := below_lo HX.out.bl (bel_one wr (NodeC (.slice Aw ws.length cw) (.slice Ap ps.length cp) blk (.slice Ak K.len ck))) HX.out.bl.size
      have HB1 := hide hb1
      have HTW := hide (twin_walk ws ps blk K Aw Ap Ak cw cp ck (wr.alloc (NodeC (.slice Aw ws.length cw) (.slice Ap ps.length cp) blk (.slice Ak K.len ck))) (hws.below hb1) (hps.below hb1) hg.1 hg.2.1 hwl hpl
        (hide (fun x hx => HIH.out K.nodes HNO.out.1 K rfl Ak ck ys D x (hks.below (below_lo hb1 hx hb1.size)) (hkF.keep (fun q hq => (below_lo hb1 hx hb1.size).block q (HD.out q hq))) (fun q hq => Nat.lt_of_lt_of_le (HD.out q hq) (below_lo hb1 hx hb1.size).size) (fun a ha => Nat.lt_of_lt_of_le (HD.out _ (hkA a ha)) (below_lo hb1 hx hb1.size).size) (by omega) hg.2.2.1)))
      have HL1 := hide (HX.out.lo.grow (World.grownBy_alloc wr (NodeC (.slice Aw ws.length cw) (.slice Ap ps.length cp) blk (.slice Ak K.len ck)) none) (fun b e => by cases e))
      have HA1 := hide (show ∀ g, (Value.slice Av Fd.len cv).ownBlock = some g → g < (wr.alloc (NodeC (.slice Aw ws.length cw) (.slice Ap ps.length cp) blk (.slice Ak K.len ck))).heap.size from fun g e => (HL1.out.own.lt g e).2)
      clear hsc g0 g1 g2 g3 hks hkA hkF hRF hws hwB hps hpB hno hszR hszb hg hlen hadB hb1 hwl hpl
      go_wp2_with fail
      refine HTW.out.mono ?_
      generalize wr.alloc (NodeC (.slice Aw ws.length cw) (.slice Ap ps.length cp) blk (.slice Ak K.len ck)) = w1 at *
      rintro e x2 ⟨vw, vp, vk, ks, BK, rfl, ht⟩
      have HB2 := hide (below_lo HB1.out ht.b HB1.out.size)
      have HL2 := hide (HL1.out.grow (grown_of_below ht.b) (fun b e => by cases e))
      have HT := hide ht
      obtain ⟨Bw, dw, rfl⟩ := own_slice ht.ow
      obtain ⟨Bp, dp, rfl⟩ := own_slice ht.op
      obtain ⟨Bk, dk, rfl⟩ := own_slice ht.k.own
      have hln := lo_one blk HT.out.b.size HT.out.ow HT.out.op HT.out.k
      have HLN := hide hln
      have HRW := hide (row_at (heap_new x2 (NodeC (.slice Bw ws.length dw) (.slice Bp ps.length dp) blk (.slice Bk K.len dk))))
      have HL3 := hide (HL2.out.grow (World.grownBy_alloc x2 (NodeC (.slice Bw ws.length dw) (.slice Bp ps.length dp) blk (.slice Bk K.len dk)) none) (fun b e => by cases e))
      have HB3 := hide (below_lo HB2.out (bel_one x2 (NodeC (.slice Bw ws.length dw) (.slice Bp ps.length dp) blk (.slice Bk K.len dk))) HB2.out.size)
      have HDL := hide hdl
      clear ht hln hdl HTW
      go_wp2_with (at_builtin; go_must (refine wpList_append_own_at _ rfl (.tmp 12) (.tmp 15) 36 rfl w.heap.size 44 ni _ 4 80 Try.underlying36 nz0 nz ns nb rfl (by decide) _ _ _ rfl HL3.out.own ⟨x2.heap.size, 0, none⟩ 1 1 [.slice Bw ws.length dw, .slice Bp ps.length dp, .bool blk, .slice Bk K.len dk] rfl rfl HRW.out ?ones ?c63 ?cby ?cbase ?_))
      case ones => simp [Value.oneCell']
      case c63 => have h1 := HDL.out; have h2 := HLEN.out; unfold maxLen; omega
      case cby => have h1 := HDL.out; have h2 := HLEN.out; omega
      case cbase => exact HB3.out.size
      intro v' w4 hown hgr _ hk2
      have hap := Lo.app HL3.out HLN.out HA1.out HB1.out.size hown hgr (by rw [World.size_alloc]; exact hk2)
      have HF := hide (show TwL w w4 v' F (i + 1) (Fd.app (.cons ws ps blk K .nil)) R _ xs _ D from ⟨HB3.out.grown hgr HB3.out.size (fun g e => (HL3.out.own.lt g e).1), hap, HRF.out, by have := HLEN.out; omega, by rw [Fo.len_app, HDL.out]; rfl, HNO.out.2, HSR.out, HGR.out, by rw [app_cons]; exact HX.out.eq⟩)
      clear hown hgr hk2 hap
      go_wp2_with fail
      go_roundw
      case rel => exact ⟨i + 1, _, _, _, _, by go_num, HF.out⟩
      case measure => have := HLEN.out; simp [intOf]; omega
end Go.Proofs.Ytihmmmodimionaa.Tr
/- A statement sought in a list: slices.IndexFunc, and what is asked of its predicate. -/
namespace Go.Proofs.Ytihmmmodimionaa.Tr
open Go.RowKit Go.Proofs.Ytihmmmodimionaa Go.Proofs.Ytihmmmodimionaa.Lx

theorem drewN_below (w : World) : ∀ q, Below w.heap.size w (w.drewN q)
  | 0 => Below.refl _ _
  | q + 1 => (drewN_below w q).drew
theorem eq_str (ws us : List ByteArray) {A B : Option Addr} {c d : Nat} (x : World) (h1 : Src x A ws.length c 1 (ws.map Value.string)) (h2 : Src x B us.length d 1 (us.map Value.string)) (hl1 : ws.length ≤ 1099511627776) (hl2 : us.length ≤ 1099511627776) :
    Calls Try.prog 38 #[.slice A ws.length c, .slice B us.length d] x fun e x' => e = .returned (.bool (decide (ws = us))) ∧ Below x.heap.size x x' := by
  by_cases hne : ws.length = us.length
  · rcases Nat.eq_zero_or_pos ws.length with h0 | h0
    · have e1 := List.eq_nil_of_length_eq_zero h0
      have e2 := List.eq_nil_of_length_eq_zero (hne.symm.trans h0)
      subst e1 e2
      refine (Try.slices_Equal_string_empty A B c 0 d x (by omega)).mono ?_
      rintro e x' ⟨rfl, rfl⟩
      exact ⟨rfl, Below.refl _ _⟩
    · obtain ⟨b1, o1, rfl⟩ := src_spot h1 h0 (Nat.le_refl _)
      obtain ⟨b2, o2, rfl⟩ := src_spot h2 (by omega) (Nat.le_refl _)
      refine (Try.slices_Equal_string b1 o1 ws.length c b2 o2 us.length d ws us x (Nat.le_refl _) (Nat.le_refl _) (by omega) (by omega) (fun j hj => ?_) (fun j hj => ?_)).mono ?_
      · rw [src_cells h1 j (.string ws[j]) (by rw [List.getElem?_map, List.getElem?_eq_getElem hj]; rfl)]
        simp [List.getD_eq_getElem?_getD, hj]
      · rw [src_cells h2 j (.string us[j]) (by rw [List.getElem?_map, List.getElem?_eq_getElem hj]; rfl)]
        simp [List.getD_eq_getElem?_getD, hj]
      · rintro e x' ⟨rfl, q, rfl⟩
        rw [List.take_of_length_le (Nat.le_refl _), List.take_of_length_le (Nat.le_refl _)]
        exact ⟨rfl, drewN_below x q⟩
  · refine (Try.slices_Equal_string_lens A B ws.length c us.length d x hne).mono ?_
    rintro e x' ⟨rfl, rfl⟩
    refine ⟨?_, Below.refl _ _⟩
    rw [decide_eq_false (fun h => hne (by rw [h]))]
/-- Merge's predicate -/
def sameP (ws : List ByteArray) (b : Bool) (us : List ByteArray) (b' : Bool) : Bool := (b' == b) && decide (us = ws)
set_option maxRecDepth 100000 in
theorem same_node (g : Nat) (ws us : List ByteArray) (b b' : Bool) (A B : Option Addr) (c d : Nat) (vp vk up uk : Value) (x : World) (hx : BX g (.slice A ws.length c) vp b vk x) (h1 : Src x A ws.length c 1 (ws.map Value.string)) (h2 : Src x B us.length d 1 (us.map Value.string)) (hl1 : ws.length ≤ 1099511627776) (hl2 : us.length ≤ 1099511627776) :
    Calls Try.prog 41 #[.agg #[.slice B us.length d, up, .bool b', uk], .pointer (some ⟨g, 0, none⟩)] x fun e x' => e = .returned (.bool (sameP ws b us b')) ∧ Below x.heap.size x x' := by
  have hb1 := bel_one x (NodeC (.slice B us.length d) up b' uk)
  have hx1 := hx.below hb1
  have n0 := cell_heap (j := 0) hx1.h rfl
  have n2 := cell_heap (j := 2) hx1.h rfl
  have HEQ := hide (eq_str us ws (x.alloc (NodeC (.slice B us.length d) up b' uk)) (h2.below hb1) (h1.below hb1) hl2 hl1)
  have HB1 := hide hb1
  clear hx hx1 hb1 h1 h2 hl1 hl2
  unfold sameP
  cases b <;> cases b'
  · go_enter Try.func41, Try.ntmps41
    go_wp2_with fail
    refine HEQ.out.mono ?_
    rintro e x2 ⟨rfl, hb2⟩
    have HB2 := hide (below_wide HB1.out hb2)
    clear hb2
    go_wp2_with fail
    go_ret
    exact ⟨rfl, HB2.out⟩
  · go_enter Try.func41, Try.ntmps41
    go_wp2_with fail
    go_ret
    exact ⟨rfl, HB1.out⟩
  · go_enter Try.func41, Try.ntmps41
    go_wp2_with fail
    go_ret
    exact ⟨rfl, HB1.out⟩
  · go_enter Try.func41, Try.ntmps41
    go_wp2_with fail
    refine HEQ.out.mono ?_
    rintro e x2 ⟨rfl, hb2⟩
    have HB2 := hide (below_wide HB1.out hb2)
    clear hb2
    go_wp2_with fail
    go_ret
    exact ⟨rfl, HB2.out⟩
/-- the first statement of which p holds; -1 -/
def idxF (p : List ByteArray → Bool → Bool) : Fo → Nat → Int
  | .nil, _ => -1
  | .cons ws _ b _ R, i => if p ws b = true then (i : Int) else idxF p R (i + 1)
structure IxL (w wr : World) (p : List ByteArray → Bool → Bool) (F : Fo) (i : Nat) (R : Fo) (xs : List Value) (D : Nat → Prop) : Prop where
  bl : Below w.heap.size w wr
  fo : FoV w D R (xs.drop (i * 4))
  len : i + R.len = F.len
  eq : idxF p F 0 = idxF p R i
  sz : szF R ≤ szF F
  gd : Gd R
set_option maxHeartbeats 2000000 in
set_option maxRecDepth 100000 in
theorem index_any (F : Fo) (A : Option Addr) (c : Nat) (xs : List Value) (D : Nat → Prop) (w : World) (hs : Src w A F.len c 4 xs) (hf : FoV w D F xs) (hA : ∀ a, A = some a → a.block < w.heap.size) (hsz : szF F ≤ 1099511627776) (hgd : Gd F) (g : Nat) (lb : Array Value) (p : List ByteArray → Bool → Bool) (eg : ∀ args w, (callFunc g args).run Try.prog w = .ok (.enter g args) w)
    (HC : Hid (∀ (ws : List ByteArray) (b : Bool) (B : Option Addr) (d : Nat) (vp vk : Value) (x : World), 1 ≤ ws.length → (∀ a, B = some a → ws.length ≤ d) → ws.length ≤ 1099511627776 → Below w.heap.size w x → Src x B ws.length d 1 (ws.map Value.string) → Calls Try.prog g (#[.agg #[.slice B ws.length d, vp, .bool b, vk]] ++ lb) x fun e x' => e = .returned (.bool (p ws b)) ∧ Below x.heap.size x x')) :
    Calls Try.prog 40 #[.slice A F.len c, .func (.func g) #[] lb] w fun e w' => e = .returned (.int .i64 (idxF p F 0)) ∧ Below w.heap.size w w' := by
  have HS := hide hs
  have HST := hide (show IxL w w p F 0 F xs D from ⟨Below.refl _ _, by simpa using hf, by simp, rfl, Nat.le_refl _, hgd⟩)
  have HA := hide hA
  have hl : F.len ≤ 1099511627776 := Nat.le_trans (len_sz F) hsz
  have HZ := hide hsz
  clear hs hf hA hsz hgd
  go_enter Try.func40, Try.ntmps40
  go_wp2_with fail
  go_loopw [8] (fun j wr => ∃ (i : Nat) (R : Fo), j = .int .i64 i ∧ IxL w wr p F i R xs D) (fun j _ => F.len - (intOf j).toNat)
  case atStart => exact ⟨0, F, rfl, HST.out⟩
  case round =>
    clear HST
    obtain ⟨i, R, rfl, hX⟩ := hrel
    have HX := hide hX
    clear hX
    cases R with
    | nil =>
      have hi : i = F.len := by have := HX.out.len; simpa [Fo.len] using this
      have d1 : decide (i < F.len) = false := decide_eq_false (by omega)
      have d1' : decide ((i : Int) < (F.len : Int)) = false := decide_eq_false (by omega)
      clear hi
      go_wp2_with fail
      go_ret
      exact ⟨by rw [HX.out.eq]; rfl, HX.out.bl⟩
    | cons ws ps blk K R =>
      have hlen : i + (R.len + 1) = F.len := HX.out.len
      have d1 : decide (i < F.len) = true := decide_eq_true (by omega)
      have d1' : decide ((i : Int) < (F.len : Int)) = true := decide_eq_true (by omega)
      have d2 : ((i : Int) < (F.len : Int)) := by omega
      obtain ⟨vw, vp, Ak, ck, ys, g0, g1, g2, g3, hvw, hvp, hks, hkA, hkF, hRF⟩ := drop_fo HX.out.fo
      obtain ⟨ab, ao, rfl⟩ := src_spot HS.out (by omega) (by decide)
      have hsc := src_cells HS.out
      have hadB := HA.out _ rfl
      have c0 := cell_lo HX.out.bl (a := ⟨ab, ao + i * 4, none⟩) hadB (hsc _ _ g0)
      have c1 := cell_lo HX.out.bl (a := ⟨ab, ao + i * 4 + 1, none⟩) hadB (by rw [Nat.add_assoc]; exact hsc _ _ g1)
      have c2 := cell_lo HX.out.bl (a := ⟨ab, ao + i * 4 + 2, none⟩) hadB (by rw [Nat.add_assoc]; exact hsc _ _ g2)
      have c3 := cell_lo HX.out.bl (a := ⟨ab, ao + i * 4 + 3, none⟩) hadB (by rw [Nat.add_assoc]; exact hsc _ _ g3)
      obtain ⟨Aw, cw, rfl, hws, hwB⟩ := hvw
      have hszR : szF (.cons ws ps blk K R) = ws.length + ps.length + 1 + szF K + szF R := rfl
      have hszb : ws.length ≤ 1099511627776 ∧ szF R ≤ szF F := by have h1 := HX.out.sz; have h2 := HZ.out; omega
      have HZR := hide hszb.2
      have HGR := hide HX.out.gd.2.2.2
      have HCC := hide (HC.out ws blk Aw cw vp (.slice Ak K.len ck) wr HX.out.gd.1 (fun a ha => (hwB a ha).2) hszb.1 HX.out.bl (hws.below HX.out.bl))
      have HE := hide (show idxF p F 0 = if p ws blk = true then (i : Int) else idxF p R (i + 1) from HX.out.eq)
      have HRF := hide hRF
      have HLEN := hide hlen
      clear hsc g0 g1 g2 g3 hks hkA hkF hRF hws hwB hvp hlen hadB hszR hszb
      cases hp : p ws blk with
      | true =>
        rw [hp] at HCC
        have HP := hide hp
        clear hp
        go_wp2_with (go_at_fn g; refine HCC.out.mono ?_)
        rintro e w2 ⟨rfl, hb2⟩
        have HB2 := hide (below_lo HX.out.bl hb2 HX.out.bl.size)
        clear hb2
        go_wp2_with fail
        (try simp only [Exit.inBlock, Exit.then])
        go_ret
        exact ⟨by rw [HE.out, if_pos HP.out]; rfl, HB2.out⟩
      | false =>
        rw [hp] at HCC
        have HP := hide hp
        clear hp
        go_wp2_with (go_at_fn g; refine HCC.out.mono ?_)
        rintro e w2 ⟨rfl, hb2⟩
        have HF := hide (show IxL w w2 p F (i + 1) R xs D from ⟨below_lo HX.out.bl hb2 HX.out.bl.size, HRF.out, by have := HLEN.out; omega, by rw [HE.out, if_neg (by rw [HP.out]; decide)], HZR.out, HGR.out⟩)
        clear hb2
        go_wp2_with fail
        go_roundw
        case rel => exact ⟨i + 1, R, by go_num, HF.out⟩
        case measure => have := HLEN.out; simp [intOf]; omega
end Go.Proofs.Ytihmmmodimionaa.Tr
/- Merge of statements of which none stands twice: a copy. -/
namespace Go.Proofs.Ytihmmmodimionaa.Tr
open Go.RowKit Go.Proofs.Ytihmmmodimionaa Go.Proofs.Ytihmmmodimionaa.Lx

theorem FoV.split {w : World} {B : Nat → Prop} : ∀ {Fd R : Fo} {ys : List Value}, FoV w B (Fd.app R) ys → ∃ y1 y2, ys = y1 ++ y2 ∧ y1.length = Fd.len * 4 ∧ FoV w B Fd y1 ∧ FoV w B R y2
  | .nil, R, ys, h => ⟨[], ys, rfl, by simp [Fo.len], rfl, h⟩
  | .cons ws ps b K F, R, ys, h => by
    obtain ⟨vw, vp, A, c, zs, xs', e, h1, h2, h3, h4, h5, h6⟩ := h
    obtain ⟨y1, y2, e2, hl, hf, hr⟩ := FoV.split h6
    exact ⟨vw :: vp :: .bool b :: .slice A K.len c :: y1, y2, by rw [e, e2]; rfl, by simp [Fo.len, hl]; omega, ⟨vw, vp, A, c, zs, y1, rfl, h1, h2, h3, h4, h5, hf⟩, hr⟩
theorem ne_of_at {g n c : Nat} (q : Nat) (h : g ≠ q) : (Value.slice (some ⟨g, 0, none⟩) n c).ownBlock ≠ some q := fun e => h (by injection e)
/-- other statements within one -/
theorem Lo.rekid {w wr x : World} {g n cv : Nat} {Fd R K K' : Fo} {ws : List ByteArray} {ps : List (Int × Int)} {blk : Bool} {ys ks : List Value} {B BK : Nat → Prop} {vk : Value} (h : Lo w wr (.slice (some ⟨g, 0, none⟩) n cv) (Fd.app (.cons ws ps blk K R)) ys B) (hw : w.heap.size ≤ wr.heap.size) (hb : Below wr.heap.size wr x) (k : Lo wr x vk K' ks BK) :
    Lo w (x.setCell ⟨g, Fd.len * 4 + 3, none⟩ vk) (.slice (some ⟨g, 0, none⟩) n cv) (Fd.app (.cons ws ps blk K' R)) (ys.set (Fd.len * 4 + 3) vk) (fun q => B q ∨ vk.ownBlock = some q ∨ BK q) := by
  obtain ⟨y1, y2, e, hl, hfd, hr⟩ := FoV.split h.fo
  obtain ⟨vw, vp, A, c, zs, xs', e2, h1, h2, h3, h4, h5, h6⟩ := hr
  have hgl := (h.own.lt g rfl).2
  have hn : n = (Fd.app (.cons ws ps blk K R)).len := by
    have := h.own.2
    rcases this with ⟨h', _⟩ | ⟨g', cap', cur, h', _⟩
    · cases h'
    · injection h'
  have ho := own_belw h.own hb
  rw [← hn] at ho
  obtain ⟨hst, hgr⟩ := ho.stored (Fd.len * 4 + 3) vk
  obtain ⟨Ak, ck, rfl⟩ := own_slice k.own
  have keepB : ∀ q, B q → (x.setCell ⟨g, Fd.len * 4 + 3, none⟩ (.slice Ak K'.len ck)).heap[q]? = wr.heap[q]? := fun q hq => by
    have hq2 := h.hB q hq
    rw [hgr.block q (Nat.lt_of_lt_of_le hq2.2.1 hb.size) (fun e => hq2.2.2 (by rw [e]; rfl))]
    exact hb.block q hq2.2.1
  have keepK : ∀ q, wr.heap.size ≤ q → q < x.heap.size → (x.setCell ⟨g, Fd.len * 4 + 3, none⟩ (.slice Ak K'.len ck)).heap[q]? = x.heap[q]? := fun q hq hq2 => hgr.block q hq2 (fun e => by injection e with e; omega)
  have hys : ys.set (Fd.len * 4 + 3) (.slice Ak K'.len ck) = y1 ++ (vw :: vp :: .bool blk :: .slice Ak K'.len ck :: xs') := by
    rw [e, e2, List.set_append_right _ _ (by omega), show Fd.len * 4 + 3 - y1.length = 3 by omega]; rfl
  refine ⟨?_, ?_, ?_⟩
  · have e3 : (Fd.app (.cons ws ps blk K' R)).len = n := by rw [hn, Fo.len_app, Fo.len_app]; rfl
    rw [e3]
    exact hst
  · rw [hys]
    refine FoV.app ((hfd.keep keepB).mono (fun q hq => .inl hq)) ⟨vw, vp, Ak, ck, ks, xs', rfl, (h1.keep keepB).mono (fun q hq => .inl hq), (h2.keep keepB).mono (fun q hq => .inl hq), ?_, fun a ha => .inr (.inl (by rw [ha]; rfl)), ?_, (h6.keep keepB).mono (fun q hq => .inl hq)⟩
    · exact src_keep (own_src k.own) (fun a ha => by
        have := k.own.lt a.block (by rw [ha]; rfl)
        exact keepK _ this.1 this.2)
    · exact (k.fo.keep (fun q hq => keepK q (k.hB q hq).1 (k.hB q hq).2.1)).mono (fun q hq => .inr (.inr hq))
  · have hse : (x.setCell ⟨g, Fd.len * 4 + 3, none⟩ (.slice Ak K'.len ck)).heap.size = x.heap.size := by simp [World.setCell]
    rintro q (hq | hq | hq)
    · have := h.hB q hq
      exact ⟨this.1, by rw [hse]; exact Nat.lt_of_lt_of_le this.2.1 hb.size, this.2.2⟩
    · have := k.own.lt q hq
      exact ⟨by omega, by rw [hse]; exact this.2, ne_of_at q (by omega)⟩
    · have := k.hB q hq
      exact ⟨by omega, by rw [hse]; exact this.2.1, ne_of_at q (by omega)⟩
def anyF (p : List ByteArray → Bool → Bool) : Fo → Bool
  | .nil => false
  | .cons ws _ b _ R => p ws b || anyF p R
theorem idx_none {p : List ByteArray → Bool → Bool} : ∀ (F : Fo) (i : Nat), anyF p F = false → idxF p F i = -1
  | .nil, _, _ => rfl
  | .cons ws _ b _ R, i, h => by
    rw [anyF, Bool.or_eq_false_iff] at h
    rw [idxF, if_neg (by rw [h.1]; decide)]
    exact idx_none R _ h.2
theorem idx_some {p : List ByteArray → Bool → Bool} : ∀ (F : Fo) (i : Nat), anyF p F = true → 0 ≤ idxF p F i
  | .nil, _, h => by cases h
  | .cons ws _ b _ R, i, h => by
    rw [idxF]
    split
    · exact Int.natCast_nonneg i
    · rename_i hp
      rw [anyF, Bool.or_eq_true] at h
      rcases h with h | h
      · exact absurd h hp
      · exact idx_some R _ h
/-- no statement stands twice in a list -/
def ndF : Fo → Fo → Bool
  | _, .nil => true
  | d, .cons ws ps b K R => !anyF (fun us b' => sameP ws b us b') d && (ndF .nil K && ndF (d.app (.cons ws ps b K .nil)) R)
/-- a copy of a statement -/
theorem twin_any (ws : List ByteArray) (ps : List (Int × Int)) (blk : Bool) (K : Fo) (Aw Ap Ak : Option Addr) (cw cp ck : Nat) (ks : List Value) (D : Nat → Prop) (w : World) (hws : Src w Aw ws.length cw 1 (ws.map Value.string)) (hps : Src w Ap ps.length cp 2 (posC ps)) (h1 : 1 ≤ ws.length) (h2 : 1 ≤ ps.length) (h3 : ws.length ≤ 1099511627776) (h4 : ps.length ≤ 1099511627776) (hk : Src w Ak K.len ck 4 ks) (hf : FoV w D K ks) (hD : ∀ q, D q → q < w.heap.size) (hA : ∀ a, Ak = some a → a.block < w.heap.size) (hsz : szF K ≤ 1099511627776) (hgd : Gd K) :
    Calls Try.prog 42 #[.agg #[.slice Aw ws.length cw, .slice Ap ps.length cp, .bool blk, .slice Ak K.len ck]] w (TwinOut ws ps blk K w) :=
  twin_walk ws ps blk K Aw Ap Ak cw cp ck w hws hps h1 h2 h3 h4 (hide fun x hx => twins_any K.nodes K rfl Ak ck ks D x (hk.below hx) (hf.keep (fun q hq => hx.block q (hD q hq))) (fun q hq => Nat.lt_of_lt_of_le (hD q hq) hx.size) (fun a ha => Nat.lt_of_lt_of_le (hA a ha) hx.size) hsz hgd)
theorem eg_merge : ∀ args w, (callFunc 41 args).run Try.prog w = .ok (.enter 41 args) w := Go.Proofs.enters_of Try.func41 (by kernel_rfl) rfl
/-- Merge, in its first loop -/
structure MgL (w wr : World) (va : Value) (F : Fo) (i : Nat) (Fd R : Fo) (ys xs : List Value) (B D : Nat → Prop) : Prop where
  t : TwL w wr va F i Fd R ys xs B D
  nd : ndF Fd R = true
end Go.Proofs.Ytihmmmodimionaa.Tr
/- Merge of statements of which none stands twice: a copy: the walk. -/
namespace Go.Proofs.Ytihmmmodimionaa.Tr
open Go.RowKit Go.Proofs.Ytihmmmodimionaa Go.Proofs.Ytihmmmodimionaa.Lx

theorem sz_app : ∀ F G : Fo, szF (F.app G) = szF F + szF G
  | .nil, G => by simp [Fo.app, szF]
  | .cons ws ps _ K R, G => by rw [Fo.app, szF, szF, sz_app R]; omega
theorem nodes_app : ∀ F G : Fo, (F.app G).nodes = F.nodes + G.nodes
  | .nil, G => by simp [Fo.app, Fo.nodes]
  | .cons ws ps _ K R, G => by rw [Fo.app, Fo.nodes, Fo.nodes, nodes_app R]; omega
theorem gd_app : ∀ F G : Fo, Gd (F.app G) → Gd F ∧ Gd G
  | .nil, G, h => ⟨trivial, h⟩
  | .cons ws ps _ K R, G, h => ⟨⟨h.1, h.2.1, h.2.2.1, (gd_app R G h.2.2.2).1⟩, (gd_app R G h.2.2.2).2⟩
theorem fo_at : ∀ (F : Fo) (i : Nat), i < F.len → ∃ (Fd : Fo) (ws : List ByteArray) (ps : List (Int × Int)) (b : Bool) (K R : Fo), F = Fd.app (.cons ws ps b K R) ∧ Fd.len = i
  | .nil, i, h => absurd h (Nat.not_lt_zero i)
  | .cons ws ps b K R, 0, _ => ⟨.nil, ws, ps, b, K, R, rfl, rfl⟩
  | .cons ws ps b K R, i + 1, h => by
    obtain ⟨Fd, ws', ps', b', K', R', e, hl⟩ := fo_at R i (by simpa [Fo.len] using h)
    exact ⟨.cons ws ps b K Fd, ws', ps', b', K', R', by rw [e]; rfl, by simp [Fo.len, hl]⟩
theorem nd_at : ∀ (Fd d : Fo) {ws : List ByteArray} {ps : List (Int × Int)} {b : Bool} {K R : Fo}, ndF d (Fd.app (.cons ws ps b K R)) = true → ndF .nil K = true
  | .nil, d, ws, ps, b, K, R, h => by
    rw [Fo.app, ndF, Bool.and_eq_true, Bool.and_eq_true] at h
    exact h.2.1
  | .cons ws' ps' b' K' F, d, ws, ps, b, K, R, h => by
    rw [Fo.app, ndF, Bool.and_eq_true, Bool.and_eq_true] at h
    exact nd_at F _ h.2.2
set_option maxHeartbeats 8000000 in
set_option maxRecDepth 100000 in
theorem merge_any : ∀ (n : Nat) (F : Fo), F.nodes = n → ∀ (A : Option Addr) (c : Nat) (xs : List Value) (D : Nat → Prop) (w : World), Src w A F.len c 4 xs → FoV w D F xs → (∀ q, D q → q < w.heap.size) → (∀ a, A = some a → a.block < w.heap.size) → szF F ≤ 1099511627776 → Gd F → ndF .nil F = true →
    Calls Try.prog 15 #[.slice A F.len c] w (TwinsOut F w) := by
  intro n
  induction n using Nat.strongRecOn with
  | _ n ih =>
  intro F hn A c xs D w hs hf hD hA hsz hgd hnd
  obtain ⟨ni, nz0, nz, ns, nb⟩ := info_parts infoN
  have HIH := hide ih
  have HS := hide hs
  have HST := hide (show MgL w w (.slice none 0 0) F 0 .nil F [] xs (fun _ => False) D from ⟨⟨Below.refl _ _, lo_start w, by simpa using hf, by simp, rfl, Nat.le_refl _, Nat.le_refl _, hgd, rfl⟩, hnd⟩)
  have hlF := len_sz F
  have hFl : F.len ≤ 1099511627776 := by omega
  have HD := hide hD
  have HA := hide hA
  have HN := hide hn
  have HZ := hide hsz
  have HG := hide hgd
  have HND := hide hnd
  clear hs hf hD hA hsz hgd ih hn hlF hnd
  go_enter Try.func15, Try.ntmps15
  go_wp2_with fail
  go_loopw [3, 10] (fun va j wr => ∃ (i : Nat) (Fd R : Fo) (ys : List Value) (B : Nat → Prop), j = .int .i64 i ∧ MgL w wr va F i Fd R ys xs B D) (fun _ j _ => F.len - (intOf j).toNat)
  case atStart => exact ⟨0, .nil, F, [], _, rfl, HST.out⟩
  case round =>
    clear HST
    obtain ⟨i, Fd, R, zs, B, rfl, hX0⟩ := hrel
    have hX := hX0.t
    obtain ⟨Av, cv, rfl⟩ := own_slice hX.lo.own
    have hdl : Fd.len = i := hX.dl
    have HX := hide hX
    have hnd := hX0.nd
    clear hX hX0
    cases R with
    | nil =>
      have hi : i = F.len := by have := HX.out.len; simpa [Fo.len] using this
      have d1 : decide (i < F.len) = false := decide_eq_false (by omega)
      have d1' : decide ((i : Int) < (F.len : Int)) = false := decide_eq_false (by omega)
      have he : Fd = F := by have := HX.out.eq; rwa [Fo.app_nil] at this
      have HL0 := hide (show Lo w wr (.slice Av F.len cv) F zs B from by have := HX.out.lo; rw [he] at this; exact this)
      have HB0 := hide HX.out.bl
      rw [hi] at hdl
      clear hi he hnd HX
      rw [hdl]
      go_wp2_with fail
      go_loopw [44] (fun j wx => ∃ (i : Nat) (ys : List Value) (B : Nat → Prop), j = .int .i64 i ∧ i ≤ F.len ∧ Below w.heap.size w wx ∧ Lo w wx (.slice Av F.len cv) F ys B) (fun j _ => F.len - (intOf j).toNat)
      case atStart => exact ⟨0, _, _, rfl, Nat.zero_le _, HB0.out, HL0.out⟩
      case round =>
        clear HL0 HB0
        obtain ⟨k, ys, B2, rfl, hk, hbx, hlx⟩ := hrel
        rcases Nat.lt_or_ge k F.len with hlt | hge
        · obtain ⟨Fd2, ws, ps, b, K, R, he, hl⟩ := fo_at F k hlt
          obtain ⟨g, cg, hva, hg1, hg2⟩ := own_some hlx.own (by omega)
          simp only [Value.slice.injEq, true_and] at hva
          obtain ⟨rfl, rfl⟩ := hva
          have hlx' : Lo w wr (.slice (some ⟨g, 0, none⟩) F.len cv) (Fd2.app (.cons ws ps b K R)) ys B2 := by rw [← he]; exact hlx
          obtain ⟨y1, y2, ey, hl1, hfd, hr⟩ := FoV.split hlx'.fo
          obtain ⟨vw, vp, Ak, ck, ks, xs', e2, h1, h2, h3, h4, h5, h6⟩ := hr
          have g3 : ys[k * 4 + 3]? = some (.slice Ak K.len ck) := by
            rw [ey, e2, List.getElem?_append_right (by omega), show k * 4 + 3 - y1.length = 3 by omega]; rfl
          have c3 := hlx.own.cellAt (k * 4 + 3) (by omega)
          rw [g3] at c3
          have hno : F.nodes = Fd2.nodes + (K.nodes + R.nodes + 1) := by rw [he, nodes_app]; rfl
          have hszk : szF F = szF Fd2 + (ws.length + ps.length + 1 + szF K + szF R) := by rw [he, sz_app]; rfl
          have hgk := (gd_app Fd2 (.cons ws ps b K R) (by rw [← he]; exact HG.out)).2
          have hndk := nd_at Fd2 .nil (by rw [← he]; exact HND.out)
          have hkl : K.len ≤ 1099511627776 := by have h1 := len_sz K; have h2 := HZ.out; omega
          have HREC := hide (HIH.out K.nodes (by have := HN.out; omega) K rfl Ak ck ks B2 wr h3 h5 (fun q hq => (hlx.hB q hq).2.1) (fun a ha => (hlx.hB _ (h4 a ha)).2.1) (by have h2 := HZ.out; omega) hgk.2.2.1 hndk)
          have d2 : decide (k < F.len) = true := decide_eq_true hlt
          have d2' : decide ((k : Int) < (F.len : Int)) = true := decide_eq_true (by omega)
          have d3 : ((k : Int) < (F.len : Int)) := by omega
          have HLX := hide hlx'
          have HBX := hide hbx
          have HOW := hide hlx.own
          have HLT := hide hlt
          have HL0 := hide hl
          have HE := hide he
          have HG1 := hide hg1
          clear hlx hlx' hbx ey e2 hl1 hfd h1 h2 h3 h4 h5 h6 g3 hno hszk hgk hndk hg1 hg2 hk hl he
          go_wp2_with fail
          refine HREC.out.mono ?_
          rintro e x2 ⟨hb2, vk, kk, BK, rfl, hk2⟩
          obtain ⟨Bk, dk, rfl⟩ := own_slice hk2.own
          have c4 := cellB hb2 c3
          have f4 := (own_belw HOW.out hb2).frozenAt (k * 4 + 3)
          have hnew := Lo.rekid HLX.out HBX.out.size hb2 hk2
          rw [HL0.out, ← HE.out] at hnew
          have HNEW := hide hnew
          have HB2 := hide ((below_lo HBX.out hb2 HBX.out.size).setCell (p := ⟨g, k * 4 + 3, none⟩) HG1.out (.slice Bk K.len dk))
          clear hnew hb2 hk2 c3
          go_wp2_with fail
          go_roundw
          case rel => exact ⟨k + 1, _, _, by go_num, HLT.out, HB2.out, HNEW.out⟩
          case measure => have := HLT.out; simp [intOf]; omega
        · have d2 : decide (k < F.len) = false := decide_eq_false (by omega)
          have d2' : decide ((k : Int) < (F.len : Int)) = false := decide_eq_false (by omega)
          have HB := hide hbx
          have HL := hide hlx
          clear hbx hlx hk hge
          go_wp2_with fail
          go_ret
          exact ⟨HB.out, _, _, _, rfl, HL.out⟩
    | cons ws ps blk K R =>
      have hlen : i + (R.len + 1) = F.len := HX.out.len
      have d1 : decide (i < F.len) = true := decide_eq_true (by omega)
      have d1' : decide ((i : Int) < (F.len : Int)) = true := decide_eq_true (by omega)
      have d2 : ((i : Int) < (F.len : Int)) := by omega
      rw [ndF, Bool.and_eq_true, Bool.and_eq_true] at hnd
      have hany : anyF (fun us b' => sameP ws blk us b') Fd = false := by have := hnd.1; simpa using this
      have HNR := hide hnd.2.2
      obtain ⟨vw, vp, Ak, ck, ys, g0, g1, g2, g3, hvw, hvp, hks, hkA, hkF, hRF⟩ := drop_fo HX.out.fo
      obtain ⟨ab, ao, rfl⟩ := src_spot HS.out (by omega) (by decide)
      have hsc := src_cells HS.out
      have hadB := HA.out _ rfl
      have c0 := cell_lo HX.out.bl (a := ⟨ab, ao + i * 4, none⟩) hadB (hsc _ _ g0)
      have c1 := cell_lo HX.out.bl (a := ⟨ab, ao + i * 4 + 1, none⟩) hadB (by rw [Nat.add_assoc]; exact hsc _ _ g1)
      have c2 := cell_lo HX.out.bl (a := ⟨ab, ao + i * 4 + 2, none⟩) hadB (by rw [Nat.add_assoc]; exact hsc _ _ g2)
      have c3 := cell_lo HX.out.bl (a := ⟨ab, ao + i * 4 + 3, none⟩) hadB (by rw [Nat.add_assoc]; exact hsc _ _ g3)
      obtain ⟨Aw, cw, rfl, hws, hwB⟩ := hvw
      obtain ⟨Ap, cp, rfl, hps, hpB⟩ := hvp
      have hno : Fo.nodes (.cons ws ps blk K R) = K.nodes + R.nodes + 1 := rfl
      have HNO := hide (show R.nodes ≤ F.nodes from by have h1 := HX.out.nodes; omega)
      have hszR : szF (.cons ws ps blk K R) = ws.length + ps.length + 1 + szF K + szF R := rfl
      have hszb : ws.length + ps.length + 1 + szF K + szF R ≤ 1099511627776 := by have h1 := HX.out.sz; have h2 := HZ.out; omega
      have hszd : szF Fd ≤ 1099511627776 := by have h1 := congrArg szF HX.out.eq; rw [sz_app] at h1; have h2 := HZ.out; omega
      have HSR := hide (show szF R ≤ szF F from by have h1 := HX.out.sz; omega)
      have hgd1 := (gd_app Fd (.cons ws ps blk K R) (by rw [HX.out.eq]; exact HG.out)).1
      have hg := HX.out.gd
      have HGR := hide hg.2.2.2
      have hkl : K.len ≤ 1099511627776 := by have h1 := len_sz K; omega
      have hdl2 : Fd.len ≤ 1099511627776 := by omega
      have hwl : ws.length ≤ 1099511627776 := by omega
      have hpl : ps.length ≤ 1099511627776 := by omega
      have HRF := hide hRF
      have HLEN := hide hlen
      have hb1 := below_lo HX.out.bl (bel_one wr (NodeC (.slice Aw ws.length cw) (.slice Ap ps.length cp) blk (.slice Ak K.len ck))) HX.out.bl.size
      have hbx : BX wr.heap.size (.slice Aw ws.length cw) (.slice Ap ps.length cp) blk (.slice Ak K.len ck) (wr.alloc (NodeC (.slice Aw ws.length cw) (.slice Ap ps.length cp) blk (.slice Ak K.len ck))) := ⟨heap_new wr _⟩
      have HB1 := hide hb1
      have HBX := hide hbx
      have hl1 := HX.out.lo.grow (World.grownBy_alloc wr (NodeC (.slice Aw ws.length cw) (.slice Ap ps.length cp) blk (.slice Ak K.len ck)) none) (fun b e => by cases e)
      have HL1 := hide hl1
      have HIX := hide (index_any Fd Av cv zs B (wr.alloc (NodeC (.slice Aw ws.length cw) (.slice Ap ps.length cp) blk (.slice Ak K.len ck))) (own_src hl1.own) hl1.fo (fun a ha => (hl1.own.lt a.block (by rw [ha]; rfl)).2) hszd hgd1 41 #[.pointer (some ⟨wr.heap.size, 0, none⟩)] (fun us b' => sameP ws blk us b') eg_merge
        (hide (fun us b' B' d vp' vk' x _ _ hul hx hsx => same_node wr.heap.size ws us blk b' Aw B' cw d (.slice Ap ps.length cp) (.slice Ak K.len ck) vp' vk' x (hbx.below hx) (hws.below (below_lo hb1 hx hb1.size)) hsx hwl hul)))
      rw [idx_none Fd 0 hany] at HIX
      have HTW := hide (fun (x : World) (hx : Below (wr.alloc (NodeC (.slice Aw ws.length cw) (.slice Ap ps.length cp) blk (.slice Ak K.len ck))).heap.size (wr.alloc (NodeC (.slice Aw ws.length cw) (.slice Ap ps.length cp) blk (.slice Ak K.len ck))) x) => twin_any ws ps blk K Aw Ap Ak cw cp ck ys D x (hws.below (below_lo hb1 hx hb1.size)) (hps.below (below_lo hb1 hx hb1.size)) hg.1 hg.2.1 hwl hpl (hks.below (below_lo hb1 hx hb1.size)) (hkF.keep (fun q hq => (below_lo hb1 hx hb1.size).block q (HD.out q hq))) (fun q hq => Nat.lt_of_lt_of_le (HD.out q hq) (below_lo hb1 hx hb1.size).size) (fun a ha => Nat.lt_of_lt_of_le (HD.out _ (hkA a ha)) (below_lo hb1 hx hb1.size).size) (by omega) hg.2.2.1)
      have HDL := hide hdl
      clear hdl
      have HA1 := hide (show ∀ g, (Value.slice Av Fd.len cv).ownBlock = some g → g < (wr.alloc (NodeC (.slice Aw ws.length cw) (.slice Ap ps.length cp) blk (.slice Ak K.len ck))).heap.size from fun g e => (HL1.out.own.lt g e).2)
      clear hsc g0 g1 g2 g3 hks hkA hkF hRF hws hwB hps hpB hno hszR hszb hszd hgd1 hg hlen hadB hb1 hbx hl1 hwl hpl hnd hany
      go_wp2_with fail
      refine HIX.out.mono ?_
      generalize wr.alloc (NodeC (.slice Aw ws.length cw) (.slice Ap ps.length cp) blk (.slice Ak K.len ck)) = w1 at *
      rintro e x1 ⟨rfl, hbi⟩
      have hbx1 := HBX.out.below hbi
      have n0 := cell_heap (j := 0) hbx1.h rfl
      have n1 := cell_heap (j := 1) hbx1.h rfl
      have n2 := cell_heap (j := 2) hbx1.h rfl
      have n3 := cell_heap (j := 3) hbx1.h rfl
      have HTX := hide (HTW.out x1 hbi)
      have HLI := hide (HL1.out.grow (grown_of_below hbi) (fun b e => by cases e))
      have HBI := hide (below_lo HB1.out hbi HB1.out.size)
      have HSI := hide hbi.size
      clear hbi hbx1 HTW HIX
      go_wp2_with fail
      refine HTX.out.mono ?_
      rintro e x2 ⟨vw, vp, vk, ks, BK, rfl, ht⟩
      have HB2 := hide (below_lo HBI.out ht.b HBI.out.size)
      have HL2 := hide (HLI.out.grow (grown_of_below ht.b) (fun b e => by cases e))
      have HT := hide ht
      obtain ⟨Bw, dw, rfl⟩ := own_slice ht.ow
      obtain ⟨Bp, dp, rfl⟩ := own_slice ht.op
      obtain ⟨Bk, dk, rfl⟩ := own_slice ht.k.own
      have hln := lo_one blk HT.out.b.size HT.out.ow HT.out.op HT.out.k
      have HLN := hide hln
      have HRW := hide (row_at (heap_new x2 (NodeC (.slice Bw ws.length dw) (.slice Bp ps.length dp) blk (.slice Bk K.len dk))))
      have HL3 := hide (HL2.out.grow (World.grownBy_alloc x2 (NodeC (.slice Bw ws.length dw) (.slice Bp ps.length dp) blk (.slice Bk K.len dk)) none) (fun b e => by cases e))
      have HB3 := hide (below_lo HB2.out (bel_one x2 (NodeC (.slice Bw ws.length dw) (.slice Bp ps.length dp) blk (.slice Bk K.len dk))) HB2.out.size)
      have HAX := hide (show ∀ g, (Value.slice Av Fd.len cv).ownBlock = some g → g < x1.heap.size from fun g e => Nat.lt_of_lt_of_le (HA1.out g e) HSI.out)
      clear ht hln HTX n0 n1 n2 n3
      go_wp2_with (at_builtin; go_must (refine wpList_append_own_at _ rfl (.tmp 20) (.tmp 23) 36 rfl w.heap.size 44 ni _ 4 80 Try.underlying36 nz0 nz ns nb rfl (by decide) _ _ _ rfl HL3.out.own ⟨x2.heap.size, 0, none⟩ 1 1 [.slice Bw ws.length dw, .slice Bp ps.length dp, .bool blk, .slice Bk K.len dk] rfl rfl HRW.out ?ones ?c63 ?cby ?cbase ?_))
      case ones => simp [Value.oneCell']
      case c63 => unfold maxLen; omega
      case cby => omega
      case cbase => exact HB3.out.size
      intro v' w4 hown hgr _ hk2
      have hap := Lo.app HL3.out HLN.out HAX.out HBI.out.size hown hgr (by rw [World.size_alloc]; exact hk2)
      have HF := hide (show MgL w w4 v' F (i + 1) (Fd.app (.cons ws ps blk K .nil)) R _ xs _ D from ⟨⟨HB3.out.grown hgr HB3.out.size (fun g e => (HL3.out.own.lt g e).1), hap, HRF.out, by have := HLEN.out; omega, by rw [Fo.len_app, HDL.out]; rfl, HNO.out, HSR.out, HGR.out, by rw [app_cons]; exact HX.out.eq⟩, HNR.out⟩)
      clear hown hgr hk2 hap
      go_wp2_with fail
      go_roundw
      case rel => exact ⟨i + 1, _, _, _, _, by go_num, HF.out⟩
      case measure => have := HLEN.out; simp [intOf]; omega
end Go.Proofs.Ytihmmmodimionaa.Tr
/- applies; within: no statement applies a group. -/
namespace Go.Proofs.Ytihmmmodimionaa.Tr
open Go.RowKit Go.Proofs.Ytihmmmodimionaa Go.Proofs.Ytihmmmodimionaa.Lx

def applW : List UInt8 := [97, 112, 112, 108, 121, 45, 103, 114, 111, 117, 112, 115]
def applB : List ByteArray → Bool
  | [] => false
  | x :: _ => T x == applW
set_option maxRecDepth 100000 in
theorem applies_any (ws : List ByteArray) (b : Bool) (B : Option Addr) (d : Nat) (vp vk : Value) (x : World) (h1 : 1 ≤ ws.length) (hl : ws.length ≤ 1099511627776) (h : Src x B ws.length d 1 (ws.map Value.string)) :
    Calls Try.prog 89 #[.agg #[.slice B ws.length d, vp, .bool b, vk]] x fun e x' => e = .returned (.bool (applB ws)) ∧ Below x.heap.size x x' := by
  obtain ⟨y, us, rfl⟩ : ∃ y us, ws = y :: us := by cases ws with
    | nil => simp at h1
    | cons y us => exact ⟨y, us, rfl⟩
  have hb1 := bel_one x (NodeC (.slice B (y :: us).length d) vp b vk)
  have h2 := h.below hb1
  obtain ⟨gb, go, rfl⟩ := src_spot h2 h1 (Nat.le_refl _)
  have c0 := src_cells h2 0 (.string y) rfl
  rw [Nat.add_zero] at c0
  have hln : (y :: us).length = us.length + 1 := rfl
  rw [hln] at c0 hb1 hl ⊢
  have HB1 := hide hb1
  have d1 : decide (0 < us.length + 1) = true := decide_eq_true (by omega)
  have d1' : decide ((0 : Int) < (us.length : Int) + 1) = true := decide_eq_true (by omega)
  have d2 : ((0 : Int) < (us.length : Int) + 1) := by omega
  clear h h1 h2 hb1 hln
  go_enter Try.func89, Try.ntmps89
  go_wp2_with fail
  go_ret
  refine ⟨?_, HB1.out⟩
  rw [ByteArray.toList_eq]
  rfl
/-- nothing applies a group -/
def noAp : Fo → Bool
  | .nil => true
  | .cons ws _ _ K R => !applB ws && (noAp K && noAp R)
/-- a function value in a box -/
structure FnB (g f : Nat) (x : World) : Prop where
  h : x.heap[g]? = some (.cells #[.func (.func f) #[] #[.pointer (some ⟨g, 0, none⟩)]] 135 (0, 0))
structure WnL (g : Nat) (w wr : World) (F : Fo) (i : Nat) (R : Fo) (xs : List Value) (D : Nat → Prop) : Prop where
  bl : Below w.heap.size w wr
  fo : FoV w D R (xs.drop (i * 4))
  len : i + R.len = F.len
  nodes : R.nodes ≤ F.nodes
  sz : szF R ≤ szF F
  gd : Gd R
  na : noAp R = true
  p : PosR wr w.heap.size 0 0
  f : FnB g 88 wr
set_option maxHeartbeats 4000000 in
set_option maxRecDepth 100000 in
theorem within_any (g : Nat) : ∀ (n : Nat) (F : Fo), F.nodes = n → ∀ (A : Option Addr) (c : Nat) (xs : List Value) (D : Nat → Prop) (w : World), Src w A F.len c 4 xs → FoV w D F xs → (∀ q, D q → q < w.heap.size) → (∀ a, A = some a → a.block < w.heap.size) → szF F ≤ 1099511627776 → Gd F → noAp F = true → FnB g 88 w →
    Calls Try.prog 88 #[.slice A F.len c, .pointer (some ⟨g, 0, none⟩)] w fun e w' => e = .returned (.tuple #[.agg #[.int .i64 0, .int .i64 0], .int .i64 0]) ∧ Below w.heap.size w w' := by
  intro n
  induction n using Nat.strongRecOn with
  | _ n ih =>
  intro F hn A c xs D w hs hf hD hA hsz hgd hna hfn
  have HIH := hide ih
  have HS := hide hs
  have hb0 := bel_one w (PosC 0 0)
  have HST := hide (show WnL g w (w.alloc (PosC 0 0)) F 0 F xs D from ⟨hb0, by simpa using hf, by simp, Nat.le_refl _, Nat.le_refl _, hgd, hna, heap_new w _, ⟨heapB hb0 hfn.h⟩⟩)
  have hlF := len_sz F
  have hFl : F.len ≤ 1099511627776 := by omega
  have HD := hide hD
  have HA := hide hA
  have HN := hide hn
  have HZ := hide hsz
  clear hs hf hD hA hsz hgd ih hn hlF hna hfn hb0
  go_enter Try.func88, Try.ntmps88
  go_wp2_with fail
  go_loopw [11] (fun j wr => ∃ (i : Nat) (R : Fo), j = .int .i64 i ∧ WnL g w wr F i R xs D) (fun j _ => F.len - (intOf j).toNat)
  case atStart => exact ⟨0, F, rfl, HST.out⟩
  case round =>
    clear HST
    obtain ⟨i, R, rfl, hX⟩ := hrel
    have HX := hide hX
    clear hX
    cases R with
    | nil =>
      have hi : i = F.len := by have := HX.out.len; simpa [Fo.len] using this
      have d1 : decide (i < F.len) = false := decide_eq_false (by omega)
      have d1' : decide ((i : Int) < (F.len : Int)) = false := decide_eq_false (by omega)
      have p0 := cell_heap (j := 0) HX.out.p rfl
      have p1 := cell_heap (j := 1) HX.out.p rfl
      have f0 := frozen_heap (j := 0) HX.out.p
      have f1 := frozen_heap (j := 1) HX.out.p
      clear hi
      go_wp2_with fail
      refine bodyPost_ret (v := .tuple #[.agg #[.int .i64 0, .int .i64 0], .int .i64 0]) (by simp [results, Try.results88, go_sem, p0, p1]) rfl ?_
      exact ⟨rfl, (HX.out.bl.setCell (p := ⟨w.heap.size, 0, none⟩) (Nat.le_refl _) _).setCell (p := ⟨w.heap.size, 1, none⟩) (Nat.le_refl _) _⟩
    | cons ws ps blk K R =>
      have hlen : i + (R.len + 1) = F.len := HX.out.len
      have d1 : decide (i < F.len) = true := decide_eq_true (by omega)
      have d1' : decide ((i : Int) < (F.len : Int)) = true := decide_eq_true (by omega)
      have d2 : ((i : Int) < (F.len : Int)) := by omega
      have hna := HX.out.na
      rw [noAp, Bool.and_eq_true, Bool.and_eq_true] at hna
      have hap : applB ws = false := by simpa using hna.1
      have HNA := hide hna.2.2
      obtain ⟨vw, vp, Ak, ck, ys, g0, g1, g2, g3, hvw, hvp, hks, hkA, hkF, hRF⟩ := drop_fo HX.out.fo
      obtain ⟨ab, ao, rfl⟩ := src_spot HS.out (by omega) (by decide)
      have hsc := src_cells HS.out
      have hadB := HA.out _ rfl
      have c0 := cell_lo HX.out.bl (a := ⟨ab, ao + i * 4, none⟩) hadB (hsc _ _ g0)
      have c1 := cell_lo HX.out.bl (a := ⟨ab, ao + i * 4 + 1, none⟩) hadB (by rw [Nat.add_assoc]; exact hsc _ _ g1)
      have c2 := cell_lo HX.out.bl (a := ⟨ab, ao + i * 4 + 2, none⟩) hadB (by rw [Nat.add_assoc]; exact hsc _ _ g2)
      have c3 := cell_lo HX.out.bl (a := ⟨ab, ao + i * 4 + 3, none⟩) hadB (by rw [Nat.add_assoc]; exact hsc _ _ g3)
      obtain ⟨Aw, cw, rfl, hws, hwB⟩ := hvw
      obtain ⟨Ap, cp, rfl, hps, hpB⟩ := hvp
      have hno : Fo.nodes (.cons ws ps blk K R) = K.nodes + R.nodes + 1 := rfl
      have HNO := hide (show K.nodes < n ∧ R.nodes ≤ F.nodes from by have h1 := HX.out.nodes; have h2 := HN.out; omega)
      have hszR : szF (.cons ws ps blk K R) = ws.length + ps.length + 1 + szF K + szF R := rfl
      have hszb : ws.length + ps.length + 1 + szF K + szF R ≤ 1099511627776 := by have h1 := HX.out.sz; have h2 := HZ.out; omega
      have HSR := hide (show szF R ≤ szF F from by have h1 := HX.out.sz; omega)
      have hg := HX.out.gd
      have HGR := hide hg.2.2.2
      have hkl : K.len ≤ 1099511627776 := by have h1 := len_sz K; omega
      have HRF := hide hRF
      have HLEN := hide hlen
      have hb1 := below_lo HX.out.bl (bel_one wr (NodeC (.slice Aw ws.length cw) (.slice Ap ps.length cp) blk (.slice Ak K.len ck))) HX.out.bl.size
      have HB1 := hide hb1
      have HBX := hide (show BX wr.heap.size (.slice Aw ws.length cw) (.slice Ap ps.length cp) blk (.slice Ak K.len ck) (wr.alloc (NodeC (.slice Aw ws.length cw) (.slice Ap ps.length cp) blk (.slice Ak K.len ck))) from ⟨heap_new wr _⟩)
      have HP1 := hide (heap_old (p := (NodeC (.slice Aw ws.length cw) (.slice Ap ps.length cp) blk (.slice Ak K.len ck))) HX.out.p)
      have HF1 := hide (heap_old (p := (NodeC (.slice Aw ws.length cw) (.slice Ap ps.length cp) blk (.slice Ak K.len ck))) HX.out.f.h)
      have HAP := hide (applies_any ws blk Aw cw (.slice Ap ps.length cp) (.slice Ak K.len ck) (wr.alloc (NodeC (.slice Aw ws.length cw) (.slice Ap ps.length cp) blk (.slice Ak K.len ck))) hg.1 (by omega) (hws.below hb1))
      rw [hap] at HAP
      have HREC := hide (fun (x : World) (hx : Below w.heap.size w x) (hfx : FnB g 88 x) => HIH.out K.nodes HNO.out.1 K rfl Ak ck ys D x (hks.below hx) (hkF.keep (fun q hq => hx.block q (HD.out q hq))) (fun q hq => Nat.lt_of_lt_of_le (HD.out q hq) hx.size) (fun a ha => Nat.lt_of_lt_of_le (HD.out _ (hkA a ha)) hx.size) (by omega) hg.2.2.1 (by simpa using hna.2.1) hfx)
      clear hsc g0 g1 g2 g3 hks hkA hkF hRF hws hwB hps hpB hno hszR hszb hg hlen hadB hb1 hna hap
      go_wp2_with fail
      refine HAP.out.mono ?_
      generalize wr.alloc (NodeC (.slice Aw ws.length cw) (.slice Ap ps.length cp) blk (.slice Ak K.len ck)) = w1 at *
      rintro e x1 ⟨rfl, hb2⟩
      have HB2 := hide (below_lo HB1.out hb2 HB1.out.size)
      have hbx2 := HBX.out.below hb2
      have n3 := cell_heap (j := 3) hbx2.h rfl
      have HP2 := hide (heapB hb2 HP1.out)
      have hf2 : FnB g 88 x1 := ⟨heapB hb2 HF1.out⟩
      have fc := cell_heap (j := 0) hf2.h rfl
      have HF2 := hide hf2
      have HRX := hide (HREC.out x1 HB2.out hf2)
      clear hb2 hbx2 hf2 HREC HAP
      go_wp2_with fail
      refine HRX.out.mono ?_
      rintro e x2 ⟨rfl, hb3⟩
      have hp3 := heapB hb3 HP2.out
      have HF := hide (fun o => show WnL g w (x2.alloc o) F (i + 1) R xs D from ⟨below_lo (below_lo HB2.out hb3 HB2.out.size) (bel_one x2 o) (Nat.le_trans HB2.out.size hb3.size), HRF.out, by have := HLEN.out; omega, HNO.out.2, HSR.out, HGR.out, HNA.out, heap_old hp3, ⟨heap_old (heapB hb3 HF2.out.h)⟩⟩)
      clear hb3 hp3 n3 fc HRX
      go_wp2_with fail
      go_roundw
      case rel => exact ⟨i + 1, R, by go_num, HF.out _⟩
      case measure => have := HLEN.out; simp [intOf]; omega
end Go.Proofs.Ytihmmmodimionaa.Tr
/- book: a map of one group. -/
namespace Go.Proofs.Ytihmmmodimionaa.Tr
open Go.RowKit Go.Proofs.Ytihmmmodimionaa Go.Proofs.Ytihmmmodimionaa.Lx

/-- a map of one group -/
structure Mp1 (g : Nat) (s : ByteArray) (v : Value) (w : World) : Prop where
  h : w.heap[g]? = some (.map #[⟨.string s, v, 0⟩] 1)
theorem Mp1.below {g : Nat} {s : ByteArray} {v : Value} {w x : World} (h : Mp1 g s v w) (hb : Below w.heap.size w x) : Mp1 g s v x := ⟨heapB hb h.h⟩
theorem same_str (s : ByteArray) : Instr.sameNow .string (.string s) (.string s) = some true := by simp [Instr.sameNow, (MapKept.bytes_beq s s).2 rfl]
theorem run_lookup (w : World) (g : Nat) (s : ByteArray) (v : Value) (ok : Bool) (h : Mp1 g s v w) :
    (Instr.lookup 118 (.map (some g)) (.string s) ok).run Try.prog w = .ok (if ok then .tuple #[v, .bool true] else v) w := by
  have h1 : Instr.findNow .string (.string s) [⟨.string s, v, 0⟩] 0 = some (some (0, v)) := by rw [Instr.findNow, same_str]
  cases ok <;> simp [Instr.lookup, run_underlying Try.underlying118, MapKept.run_getObj_map h.h, MapKept.run_checkKey Try.underlying9 (show MapKept.IsKey .string (.string s) from trivial), MapKept.run_findKey Try.underlying9 h1, Result.andThen]
def mapW (w : World) (g : Nat) (s : ByteArray) (v : Value) : World := { w with heap := w.heap.setIfInBounds g (.map #[⟨.string s, v, 0⟩] 1) }
theorem run_update (w : World) (g : Nat) (s : ByteArray) (v : Value) (h : w.heap[g]? = some (.map #[] 0)) :
    (Instr.mapUpdate 118 (.map (some g)) (.string s) v).run Try.prog w = .ok () (mapW w g s v) := by
  have h1 : Instr.findNow .string (.string s) [] 0 = some none := rfl
  simp [Instr.mapUpdate, run_underlying Try.underlying118, MapKept.run_getObj_map h, MapKept.run_checkKey Try.underlying9 (show MapKept.IsKey .string (.string s) from trivial), MapKept.run_findKey Try.underlying9 h1, MapKept.run_setObj_map _ h, Result.andThen, mapW]
theorem mapW_only (w : World) (g : Nat) (s : ByteArray) (v : Value) : Only g w (mapW w g s v) :=
  ⟨rfl, rfl, rfl, by simp [mapW], fun i hi hne => by
    have : g ≠ i := fun e => hne (by rw [e])
    simp [mapW, Array.getElem?_setIfInBounds_ne this]⟩
theorem mapW_is (w : World) (g : Nat) (s : ByteArray) (v : Value) (h : g < w.heap.size) : Mp1 g s v (mapW w g s v) := ⟨by simp [mapW, h]⟩
/-- book, in its loop -/
structure Bk0 (w wr : World) : Prop where
  bl : Below w.heap.size w wr
  p : PosR wr w.heap.size 0 0
  m : wr.heap[w.heap.size + 1]? = some (.map #[] 0)
  f : FnB (w.heap.size + 1 + 1) 88 wr
structure Bk1 (name : ByteArray) (v : Value) (w wr : World) : Prop where
  bl : Below w.heap.size w wr
  p : PosR wr w.heap.size 0 0
  m : Mp1 (w.heap.size + 1) name v wr
structure BW (g b o : Nat) (name : ByteArray) (vw vp : Value) (blk : Bool) (vk : Value) (x : World) : Prop where
  bx : BX g vw vp blk vk x
  c : x.cell? ⟨b, o, none⟩ = some (.string name)
def BookOut (name : ByteArray) (v : Value) (w : World) (e : Ending) (w' : World) : Prop :=
  e = .returned (.tuple #[.map (some (w.heap.size + 1)), .agg #[.int .i64 0, .int .i64 0], .int .i64 0]) ∧ Below w.heap.size w w' ∧ Mp1 (w.heap.size + 1) name v w'
set_option maxHeartbeats 4000000 in
set_option maxRecDepth 100000 in
theorem book_one (name : ByteArray) (ps : List (Int × Int)) (K : Fo) (b o c : Nat) (Aw Ap Ak : Option Addr) (cw cp ck : Nat) (ks : List Value) (D : Nat → Prop) (w : World) (hb : b < w.heap.size)
    (g0 : w.cell? ⟨b, o, none⟩ = some (.slice Aw 1 cw)) (g1 : w.cell? ⟨b, o + 1, none⟩ = some (.slice Ap ps.length cp)) (g2 : w.cell? ⟨b, o + 2, none⟩ = some (.bool true)) (g3 : w.cell? ⟨b, o + 3, none⟩ = some (.slice Ak K.len ck))
    (hws : Src w Aw 1 cw 1 [.string name]) (hwB : ∀ a, Aw = some a → a.block < w.heap.size) (hks : Src w Ak K.len ck 4 ks) (hkf : FoV w D K ks) (hD : ∀ q, D q → q < w.heap.size) (hA : ∀ a, Ak = some a → a.block < w.heap.size) (hsz : szF K ≤ 1099511627776) (hgd : Gd K) (hna : noAp K = true) :
    Calls Try.prog 71 #[.slice (some ⟨b, o, none⟩) 1 c] w (BookOut name (.slice Ak K.len ck) w) := by
  obtain ⟨wb, wo, rfl⟩ := src_spot hws (Nat.le_refl _) (Nat.le_refl _)
  have hwc := src_cells hws 0 _ rfl
  rw [Nat.add_zero] at hwc
  have hwB2 := hwB _ rfl
  have hmm := @run_makeMap Try.prog
  have HW := hide (show ∀ (x : World), Below w.heap.size w x → x.cell? ⟨wb, wo, none⟩ = some (.string name) from fun x hx => cell_lo hx hwB2 hwc)
  have HG := hide (show ∀ (x : World), Below w.heap.size w x → x.cell? ⟨b, o, none⟩ = some (.slice (some ⟨wb, wo, none⟩) 1 cw) ∧ x.cell? ⟨b, o + 1, none⟩ = some (.slice Ap ps.length cp) ∧ x.cell? ⟨b, o + 2, none⟩ = some (.bool true) ∧ x.cell? ⟨b, o + 3, none⟩ = some (.slice Ak K.len ck) from fun x hx => ⟨cell_lo hx hb g0, cell_lo (a := ⟨b, o + 1, none⟩) hx hb g1, cell_lo (a := ⟨b, o + 2, none⟩) hx hb g2, cell_lo (a := ⟨b, o + 3, none⟩) hx hb g3⟩)
  have HWI := hide (fun (x : World) (hx : Below w.heap.size w x) (hfx : FnB (w.heap.size + 1 + 1) 88 x) => within_any (w.heap.size + 1 + 1) K.nodes K rfl Ak ck ks D x (hks.below hx) (hkf.keep (fun q hq => hx.block q (hD q hq))) (fun q hq => Nat.lt_of_lt_of_le (hD q hq) hx.size) (fun a ha => Nat.lt_of_lt_of_le (hA a ha) hx.size) hsz hgd hna hfx)
  have hkl : K.len ≤ 1099511627776 := Nat.le_trans (len_sz K) hsz
  clear g0 g1 g2 g3 hws hwB hks hkf hD hA hsz hgd hna hwc hwB2 hb
  have h2 := heap_new2 w (PosC 0 0) (.map #[] 0)
  have h3 := heap_new ((w.alloc (PosC 0 0)).alloc (.map #[] 0)) (.cells #[.nilFunc] 135)
  rw [show ((w.alloc (PosC 0 0)).alloc (.map #[] 0)).heap.size = w.heap.size + 1 + 1 from by simp] at h3
  have n0 := cell_heap (j := 0) h3 rfl
  have nf := frozen_heap (j := 0) h3
  have h4 := heap_new ((w.alloc (PosC 0 0)).alloc (.map #[] 0)) (.cells #[.func (.func 88) #[] #[.pointer (some ⟨w.heap.size + 1 + 1, 0, none⟩)]] 135)
  rw [show ((w.alloc (PosC 0 0)).alloc (.map #[] 0)).heap.size = w.heap.size + 1 + 1 from by simp] at h4
  have hst : Bk0 w (((w.alloc (PosC 0 0)).alloc (.map #[] 0)).alloc (.cells #[.func (.func 88) #[] #[.pointer (some ⟨w.heap.size + 1 + 1, 0, none⟩)]] 135)) :=
    ⟨below_lo (below_lo (bel_one w (PosC 0 0)) (bel_one _ (.map #[] 0)) (by simp)) (bel_one _ (.cells #[.func (.func 88) #[] #[.pointer (some ⟨w.heap.size + 1 + 1, 0, none⟩)]] 135)) (by simp; omega), heap_old (heap_old (heap_new w _)), heap_old h2, ⟨h4⟩⟩
  have HST := hide hst
  clear h2 h3 h4 hst
  go_enter Try.func71, Try.ntmps71
  go_wp2_with fail
  clear n0 nf
  go_loopw [15] (fun j wr => (j = .int .i64 0 ∧ Bk0 w wr) ∨ (j = .int .i64 1 ∧ Bk1 name (.slice Ak K.len ck) w wr)) (fun j _ => 1 - (intOf j).toNat)
  case atStart => exact .inl ⟨rfl, HST.out⟩
  case round =>
    clear HST
    rcases hrel with ⟨rfl, hX⟩ | ⟨rfl, hX⟩
    · have hg := HG.out wr hX.bl
      obtain ⟨c0, c1, c2, c3⟩ := hg
      have HX := hide hX
      clear hX
      have hb1 := below_lo HX.out.bl (bel_one wr (NodeC (.slice (some ⟨wb, wo, none⟩) 1 cw) (.slice Ap ps.length cp) true (.slice Ak K.len ck))) HX.out.bl.size
      have hf1 : FnB (w.heap.size + 1 + 1) 88 (wr.alloc (NodeC (.slice (some ⟨wb, wo, none⟩) 1 cw) (.slice Ap ps.length cp) true (.slice Ak K.len ck))) := ⟨heap_old HX.out.f.h⟩
      have fc := cell_heap (j := 0) hf1.h rfl
      have HWX := hide (HWI.out _ hb1 hf1)
      have HB1 := hide hb1
      have HBX := hide (show BX wr.heap.size (.slice (some ⟨wb, wo, none⟩) 1 cw) (.slice Ap ps.length cp) true (.slice Ak K.len ck) (wr.alloc (NodeC (.slice (some ⟨wb, wo, none⟩) 1 cw) (.slice Ap ps.length cp) true (.slice Ak K.len ck))) from ⟨heap_new wr _⟩)
      have HP1 := hide (heap_old (p := NodeC (.slice (some ⟨wb, wo, none⟩) 1 cw) (.slice Ap ps.length cp) true (.slice Ak K.len ck)) HX.out.p)
      have HM1 := hide (heap_old (p := NodeC (.slice (some ⟨wb, wo, none⟩) 1 cw) (.slice Ap ps.length cp) true (.slice Ak K.len ck)) HX.out.m)
      clear hb1 hf1
      go_wp2_with fail
      refine HWX.out.mono ?_
      generalize wr.alloc (NodeC (.slice (some ⟨wb, wo, none⟩) 1 cw) (.slice Ap ps.length cp) true (.slice Ak K.len ck)) = w1 at *
      rintro e x1 ⟨rfl, hb2⟩
      have HB2 := hide (below_lo (below_lo HB1.out hb2 HB1.out.size) (bel_one x1 (PosC 0 0)) (Nat.le_trans HB1.out.size hb2.size))
      have hbx2 : BX wr.heap.size (.slice (some ⟨wb, wo, none⟩) 1 cw) (.slice Ap ps.length cp) true (.slice Ak K.len ck) (x1.alloc (PosC 0 0)) := (HBX.out.below hb2).below (bel_one x1 _)
      have HP2 := hide (heap_old (p := PosC 0 0) (heapB hb2 HP1.out))
      have HM2 := hide (heap_old (p := PosC 0 0) (heapB hb2 HM1.out))
      have hbw : BW wr.heap.size wb wo name (.slice (some ⟨wb, wo, none⟩) 1 cw) (.slice Ap ps.length cp) true (.slice Ak K.len ck) (x1.alloc (PosC 0 0)).drew := ⟨⟨hbx2.h⟩, HW.out _ HB2.out.drew⟩
      have HBW := hide hbw
      have k0 := fun x => cell_heap (j := 0) (pin_in hbw x).bx.h rfl
      have k3 := fun x => cell_heap (j := 3) (pin_in hbw x).bx.h rfl
      have kc := fun x => (pin_in hbw x).c
      clear hb2 hbx2 hbw fc HWX
      go_wp2_with fail
      refine wp_region_tree (BW wr.heap.size wb wo name (.slice (some ⟨wb, wo, none⟩) 1 cw) (.slice Ap ps.length cp) true (.slice Ak K.len ck)) (fun k => ([7] : List Nat).contains k) (.take [0, 1, 2, 3, 4, 5, 6] (.step 7 .done)) (by kernel_rfl) (by kernel_rfl) (by kernel_rfl) (by kernel_rfl) (.take (.cons (.zero) (.cons (.succ (.zero)) (.cons (.succ (.succ (.zero))) (.cons (.succ (.succ (.succ (.zero)))) (.cons (.succ (.succ (.succ (.succ (.zero))))) (.cons (.succ (.succ (.succ (.succ (.succ (.zero)))))) (.cons (.succ (.succ (.succ (.succ (.succ (.succ (.zero))))))) .nil))))))) (.step (.succ (.succ (.succ (.succ (.succ (.succ (.succ (.zero)))))))) rfl .done)) ?hQ ?hS ?_
      case hQ => exact fun _ _ _ _ _ h => h
      case hS => exact HBW.out
      refine wpT_take ?_
      repeat (first | go_big_quiet_step ((fail)) | quiet_step ((fail)))
      refine wpQuiet_nil ?_
      have HB3 := hide HB2.out.drew
      have hm3 : (x1.alloc (PosC 0 0)).drew.heap[w.heap.size + 1]? = some (.map #[] 0) := HM2.out
      have HP3 := hide (show PosR (x1.alloc (PosC 0 0)).drew w.heap.size 0 0 from HP2.out)
      generalize (x1.alloc (PosC 0 0)).drew = x2 at *
      have hup := run_update x2 (w.heap.size + 1) name (.slice Ak K.len ck) hm3
      have HL := hide (lt_heap hm3)
      clear k0 k3 kc hm3
      refine wpT_step rfl ?_
      intro K1 hK1
      go_wp2_with fail
      refine hK1.out _ _ (fun h => by cases h) ?_
      clear hK1 hup
      refine wpT_done ?_
      have ho := mapW_only x2 (w.heap.size + 1) name (.slice Ak K.len ck)
      have HF := hide (show Bk1 name (.slice Ak K.len ck) w (mapW x2 (w.heap.size + 1) name (.slice Ak K.len ck)) from ⟨below_only HB3.out ho (by omega) HB3.out.size, only_heap ho HP3.out (by omega), mapW_is _ _ _ _ HL.out⟩)
      clear ho
      go_wp2_with fail
      go_roundw
      case rel => exact .inr ⟨by go_num, HF.out⟩
      case measure => simp [intOf]
    · have HX := hide hX
      have p0 := cell_heap (j := 0) hX.p rfl
      have p1 := cell_heap (j := 1) hX.p rfl
      have f0 := frozen_heap (j := 0) hX.p
      have f1 := frozen_heap (j := 1) hX.p
      clear hX
      go_wp2_with fail
      refine bodyPost_ret (v := .tuple #[.map (some (w.heap.size + 1)), .agg #[.int .i64 0, .int .i64 0], .int .i64 0]) (by simp [results, Try.results71, go_sem, p0, p1]) rfl ?_
      have ho := only_set (only_set (only_refl w.heap.size wr) 0 (.int .i64 0)) 1 (.int .i64 0)
      exact ⟨rfl, (HX.out.bl.setCell (p := ⟨w.heap.size, 0, none⟩) (Nat.le_refl _) _).setCell (p := ⟨w.heap.size, 1, none⟩) (Nat.le_refl _) _, ⟨only_heap ho HX.out.m.h (by omega)⟩⟩
end Go.Proofs.Ytihmmmodimionaa.Tr
/- known: all groups that are applied are known: where there is one group (printed by gen_uh.py). -/
namespace Go.Proofs.Ytihmmmodimionaa.Tr
open Go.RowKit Go.Proofs.Ytihmmmodimionaa Go.Proofs.Ytihmmmodimionaa.Lx

theorem T_inj {a b : ByteArray} (h : T a = T b) : a = b := by
  obtain ⟨x⟩ := a
  obtain ⟨y⟩ := b
  have : x = y := Array.toList_inj.1 h
  rw [this]
def knF (s : ByteArray) : Fo → Bool
  | .nil => true
  | .cons ws _ b K R => (!applB ws || (!b && decide ((ws.drop 1).map T = [T s]))) && (knF s K && knF s R)
theorem two_words {ws : List ByteArray} {s : ByteArray} (h1 : 1 ≤ ws.length) (h : (ws.drop 1).map T = [T s]) : ∃ y, ws = [y, s] := by
  cases ws with
  | nil => simp at h1
  | cons y us =>
    rw [List.drop_one, List.tail_cons] at h
    cases us with
    | nil => cases h
    | cons z vs =>
      rw [List.map_cons] at h
      injection h with h2 h3
      have := T_inj h2
      have e : vs = [] := by simpa using h3
      subst this e
      exact ⟨y, rfl⟩
structure KnL (g : Nat) (s : ByteArray) (v : Value) (w wr : World) (F : Fo) (i : Nat) (R : Fo) (xs : List Value) (D : Nat → Prop) : Prop where
  bl : Below w.heap.size w wr
  fo : FoV w D R (xs.drop (i * 4))
  len : i + R.len = F.len
  nodes : R.nodes ≤ F.nodes
  sz : szF R ≤ szF F
  gd : Gd R
  na : knF s R = true
  p : PosR wr w.heap.size 0 0
  m : Mp1 g s v wr
set_option maxHeartbeats 4000000 in
set_option maxRecDepth 100000 in
theorem known_any (g : Nat) (s : ByteArray) (v : Value) : ∀ (n : Nat) (F : Fo), F.nodes = n → ∀ (A : Option Addr) (c : Nat) (xs : List Value) (D : Nat → Prop) (w : World), Src w A F.len c 4 xs → FoV w D F xs → (∀ q, D q → q < w.heap.size) → (∀ a, A = some a → a.block < w.heap.size) → szF F ≤ 1099511627776 → Gd F → knF s F = true → Mp1 g s v w →
    Calls Try.prog 72 #[.slice A F.len c, .map (some g)] w fun e w' => e = .returned (.tuple #[.agg #[.int .i64 0, .int .i64 0], .int .i64 0]) ∧ Below w.heap.size w w' := by
  intro n
  induction n using Nat.strongRecOn with
  | _ n ih =>
  intro F hn A c xs D w hs hf hD hA hsz hgd hna hm
  have HIH := hide ih
  have HS := hide hs
  have hb0 := bel_one w (PosC 0 0)
  have HST := hide (show KnL g s v w (w.alloc (PosC 0 0)) F 0 F xs D from ⟨hb0, by simpa using hf, by simp, Nat.le_refl _, Nat.le_refl _, hgd, hna, heap_new w _, hm.below hb0⟩)
  have hlF := len_sz F
  have hFl : F.len ≤ 1099511627776 := by omega
  have HD := hide hD
  have HA := hide hA
  have HN := hide hn
  have HZ := hide hsz
  clear hs hf hD hA hsz hgd ih hn hlF hna hm hb0
  go_enter Try.func72, Try.ntmps72
  go_wp2_with fail
  go_loopw [16] (fun j wr => ∃ (i : Nat) (R : Fo), j = .int .i64 i ∧ KnL g s v w wr F i R xs D) (fun j _ => F.len - (intOf j).toNat)
  case atStart => exact ⟨0, F, rfl, HST.out⟩
  case round =>
    clear HST
    obtain ⟨i, R, rfl, hX⟩ := hrel
    have HX := hide hX
    clear hX
    cases R with
    | nil =>
      have hi : i = F.len := by have := HX.out.len; simpa [Fo.len] using this
      have d1 : decide (i < F.len) = false := decide_eq_false (by omega)
      have d1' : decide ((i : Int) < (F.len : Int)) = false := decide_eq_false (by omega)
      have p0 := cell_heap (j := 0) HX.out.p rfl
      have p1 := cell_heap (j := 1) HX.out.p rfl
      have f0 := frozen_heap (j := 0) HX.out.p
      have f1 := frozen_heap (j := 1) HX.out.p
      clear hi
      go_wp2_with fail
      refine bodyPost_ret (v := .tuple #[.agg #[.int .i64 0, .int .i64 0], .int .i64 0]) (by simp [results, Try.results72, go_sem, p0, p1]) rfl ?_
      exact ⟨rfl, (HX.out.bl.setCell (p := ⟨w.heap.size, 0, none⟩) (Nat.le_refl _) _).setCell (p := ⟨w.heap.size, 1, none⟩) (Nat.le_refl _) _⟩
    | cons ws ps blk K R =>
      have hlen : i + (R.len + 1) = F.len := HX.out.len
      have d1 : decide (i < F.len) = true := decide_eq_true (by omega)
      have d1' : decide ((i : Int) < (F.len : Int)) = true := decide_eq_true (by omega)
      have d2 : ((i : Int) < (F.len : Int)) := by omega
      have hna := HX.out.na
      rw [knF, Bool.and_eq_true, Bool.and_eq_true] at hna
      have HNA := hide hna.2.2
      obtain ⟨vw, vp, Ak, ck, ys, g0, g1, g2, g3, hvw, hvp, hks, hkA, hkF, hRF⟩ := drop_fo HX.out.fo
      obtain ⟨ab, ao, rfl⟩ := src_spot HS.out (by omega) (by decide)
      have hsc := src_cells HS.out
      have hadB := HA.out _ rfl
      have c0 := cell_lo HX.out.bl (a := ⟨ab, ao + i * 4, none⟩) hadB (hsc _ _ g0)
      have c1 := cell_lo HX.out.bl (a := ⟨ab, ao + i * 4 + 1, none⟩) hadB (by rw [Nat.add_assoc]; exact hsc _ _ g1)
      have c2 := cell_lo HX.out.bl (a := ⟨ab, ao + i * 4 + 2, none⟩) hadB (by rw [Nat.add_assoc]; exact hsc _ _ g2)
      have c3 := cell_lo HX.out.bl (a := ⟨ab, ao + i * 4 + 3, none⟩) hadB (by rw [Nat.add_assoc]; exact hsc _ _ g3)
      obtain ⟨Aw, cw, rfl, hws, hwB⟩ := hvw
      obtain ⟨Ap, cp, rfl, hps, hpB⟩ := hvp
      have hno : Fo.nodes (.cons ws ps blk K R) = K.nodes + R.nodes + 1 := rfl
      have HNO := hide (show K.nodes < n ∧ R.nodes ≤ F.nodes from by have h1 := HX.out.nodes; have h2 := HN.out; omega)
      have hszR : szF (.cons ws ps blk K R) = ws.length + ps.length + 1 + szF K + szF R := rfl
      have hszb : ws.length + ps.length + 1 + szF K + szF R ≤ 1099511627776 := by have h1 := HX.out.sz; have h2 := HZ.out; omega
      have HSR := hide (show szF R ≤ szF F from by have h1 := HX.out.sz; omega)
      have hg := HX.out.gd
      have HGR := hide hg.2.2.2
      have hkl : K.len ≤ 1099511627776 := by have h1 := len_sz K; omega
      have HRF := hide hRF
      have HLEN := hide hlen
      have hb1 := below_lo HX.out.bl (bel_one wr (NodeC (.slice Aw ws.length cw) (.slice Ap ps.length cp) blk (.slice Ak K.len ck))) HX.out.bl.size
      have HB1 := hide hb1
      have HBX := hide (show BX wr.heap.size (.slice Aw ws.length cw) (.slice Ap ps.length cp) blk (.slice Ak K.len ck) (wr.alloc (NodeC (.slice Aw ws.length cw) (.slice Ap ps.length cp) blk (.slice Ak K.len ck))) from ⟨heap_new wr _⟩)
      have HP1 := hide (heap_old (p := (NodeC (.slice Aw ws.length cw) (.slice Ap ps.length cp) blk (.slice Ak K.len ck))) HX.out.p)
      have HM1 := hide (HX.out.m.below (bel_one wr (NodeC (.slice Aw ws.length cw) (.slice Ap ps.length cp) blk (.slice Ak K.len ck))))
      have HAP := hide (applies_any ws blk Aw cw (.slice Ap ps.length cp) (.slice Ak K.len ck) (wr.alloc (NodeC (.slice Aw ws.length cw) (.slice Ap ps.length cp) blk (.slice Ak K.len ck))) hg.1 (by omega) (hws.below hb1))
      have HREC := hide (fun (x : World) (hx : Below w.heap.size w x) (hmx : Mp1 g s v x) => HIH.out K.nodes HNO.out.1 K rfl Ak ck ys D x (hks.below hx) (hkF.keep (fun q hq => hx.block q (HD.out q hq))) (fun q hq => Nat.lt_of_lt_of_le (HD.out q hq) hx.size) (fun a ha => Nat.lt_of_lt_of_le (HD.out _ (hkA a ha)) hx.size) (by omega) hg.2.2.1 hna.2.1 hmx)
      have HWS := hide hws
      have HWB := hide hwB
      have HG1 := hide hg.1
      have HKN := hide hna.1
      clear hsc g0 g1 g2 g3 hks hkA hkF hRF hws hwB hps hpB hno hszR hszb hg hlen hadB hb1 hna
      cases hap : applB ws with
      | false =>
        rw [hap] at HAP
        clear hap
        go_wp2_with fail
        refine HAP.out.mono ?_
        generalize wr.alloc (NodeC (.slice Aw ws.length cw) (.slice Ap ps.length cp) blk (.slice Ak K.len ck)) = w1 at *
        rintro e x1 ⟨rfl, hb2⟩
        have HB2 := hide (below_lo HB1.out hb2 HB1.out.size)
        have hbx2 := HBX.out.below hb2
        have n3 := cell_heap (j := 3) hbx2.h rfl
        have HP2 := hide (heapB hb2 HP1.out)
        have HM2 := hide (HM1.out.below hb2)
        have HRX := hide (HREC.out x1 HB2.out HM2.out)
        clear hb2 hbx2 HREC HAP
        go_wp2_with fail
        refine HRX.out.mono ?_
        rintro e x2 ⟨rfl, hb3⟩
        have hp3 := heapB hb3 HP2.out
        have HF := hide (fun o => show KnL g s v w (x2.alloc o) F (i + 1) R xs D from ⟨below_lo (below_lo HB2.out hb3 HB2.out.size) (bel_one x2 o) (Nat.le_trans HB2.out.size hb3.size), HRF.out, by have := HLEN.out; omega, HNO.out.2, HSR.out, HGR.out, HNA.out, heap_old hp3, (HM2.out.below hb3).below (bel_one x2 o)⟩)
        clear hb3 hp3 n3 HRX
        go_wp2_with fail
        go_roundw
        case rel => exact ⟨i + 1, R, by go_num, HF.out _⟩
        case measure => have := HLEN.out; simp [intOf]; omega
      | true =>
        rw [hap] at HAP
        have hkn := HKN.out
        rw [hap] at hkn
        simp only [Bool.not_true, Bool.false_or, Bool.and_eq_true] at hkn
        obtain ⟨hkb, hkw⟩ := hkn
        have hblk : blk = false := by simpa using hkb
        subst hblk
        obtain ⟨y, rfl⟩ := two_words HG1.out (of_decide_eq_true hkw)
        have hws := HWS.out
        obtain ⟨wb, wo, rfl⟩ := src_spot hws (by simp) (Nat.le_refl _)
        have hcap := (HWB.out _ rfl).2
        have hwlt := HD.out _ (HWB.out _ rfl).1
        have hwc := src_cells hws 1 (.string s) rfl
        have HWC := hide (show ∀ x, Below w.heap.size w x → x.cell? ⟨wb, wo + 1, none⟩ = some (.string s) from fun x hx => cell_lo (a := ⟨wb, wo + 1, none⟩) hx hwlt hwc)
        rw [show ([y, s] : List ByteArray).length = 2 from rfl] at HAP HBX HP1 HM1 HB1 hcap c0
        have z1 : decide (2 ≤ cw) = true := decide_eq_true hcap
        have z2 : ((2 : Int) ≤ (cw : Int)) := by have : 2 ≤ cw := hcap; omega
        have z3 : (cw == 1) = false := beq_eq_false_iff_ne.2 (by have : 2 ≤ cw := hcap; omega)
        have z4 : decide (cw = 1) = false := decide_eq_false (by have : 2 ≤ cw := hcap; omega)
        clear hap hkb hkw hws hwlt hwc
        go_wp2_with fail
        refine HAP.out.mono ?_
        generalize wr.alloc (NodeC (.slice (some ⟨wb, wo, none⟩) 2 cw) (.slice Ap ps.length cp) false (.slice Ak K.len ck)) = w1 at *
        rintro e x1 ⟨rfl, hb2⟩
        have HB2 := hide (below_lo HB1.out hb2 HB1.out.size)
        have hbx2 := HBX.out.below hb2
        have n0 := cell_heap (j := 0) hbx2.h rfl
        have n2 := cell_heap (j := 2) hbx2.h rfl
        have n3 := cell_heap (j := 3) hbx2.h rfl
        have HP2 := hide (heapB hb2 HP1.out)
        have HM2 := hide (HM1.out.below hb2)
        have HRX := hide (HREC.out x1 HB2.out HM2.out)
        have hwc := HWC.out x1 HB2.out
        have hlk := run_lookup x1 g s v true HM2.out
        clear hb2 hbx2 HREC HAP
        go_wp2_with fail
        go_loopw [38] (fun j wx => (j = .int .i64 0 ∧ wx = x1) ∨ (j = .int .i64 1 ∧ wx = x1)) (fun j _ => 1 - (intOf j).toNat)
        case atStart => exact .inl ⟨rfl, rfl⟩
        case round =>
          rcases hrel with ⟨rfl, hw⟩ | ⟨rfl, hw⟩
          · subst hw
            go_wp2_with fail
            go_roundw
            case rel => exact .inr ⟨by go_num, by first | rfl | trivial⟩
            case measure => simp [intOf]
          · subst hw
            go_wp2_with fail
            refine HRX.out.mono ?_
            rintro e x2 ⟨rfl, hb3⟩
            have hp3 := heapB hb3 HP2.out
            have HF := hide (fun o => show KnL g s v w (x2.alloc o) F (i + 1) R xs D from ⟨below_lo (below_lo HB2.out hb3 HB2.out.size) (bel_one x2 o) (Nat.le_trans HB2.out.size hb3.size), HRF.out, by have := HLEN.out; omega, HNO.out.2, HSR.out, HGR.out, HNA.out, heap_old hp3, (HM2.out.below hb3).below (bel_one x2 o)⟩)
            clear hb3 hp3 n3 HRX
            go_wp2_with fail
            go_roundw
            case rel => exact ⟨i + 1, R, by go_num, HF.out _⟩
            case measure => have := HLEN.out; simp [intOf]; omega
end Go.Proofs.Ytihmmmodimionaa.Tr
/- inherited, where nothing applies a group: the same statements, their words shared. -/
namespace Go.Proofs.Ytihmmmodimionaa.Tr
open Go.RowKit Go.Proofs.Ytihmmmodimionaa Go.Proofs.Ytihmmmodimionaa.Lx

theorem Lo.kept2 {w wr w' : World} {v : Value} {F : Fo} {xs : List Value} {B : Nat → Prop} (h : Lo w wr v F xs B) {row : Option Nat} (hg : wr.grownBy w' row) (hr : ∀ b, row = some b → v.ownBlock ≠ some b ∧ ¬ B b) : Lo w w' v F xs B := by
  refine ⟨h.own.kept hg ?_, h.fo.keep (fun b hb => hg.block b (h.hB b hb).2.1 (fun e => (hr b e.symm).2 hb)), fun b hb => ⟨(h.hB b hb).1, Nat.lt_of_lt_of_le (h.hB b hb).2.1 hg.size, (h.hB b hb).2.2⟩⟩
  cases hv : v.ownBlock with
  | none => exact .inl rfl
  | some g => exact .inr (fun e => (hr g e.symm).1 hv)
theorem Lo.app2 {w w2 w3 : World} {v u v' : Value} {F G : Fo} {xs ys : List Value} {B D : Nat → Prop} (h : Lo w w2 v F xs B) (k : Lo w w2 u G ys D) (hne0 : ∀ b, D b → v.ownBlock ≠ some b) (ho : w3.ownsRow w.heap.size 44 4 v' (F.len + G.len) (xs ++ ys)) (hg : w2.grownBy w3 v.ownBlock) (hk : v'.ownBlock = v.ownBlock ∨ v'.ownBlock = some w2.heap.size) : Lo w w3 v' (F.app G) (xs ++ ys) (fun b => B b ∨ D b) := by
  have hne : ∀ b, B b ∨ D b → v.ownBlock ≠ some b := by
    intro b hb
    rcases hb with hb | hb
    · exact (h.hB b hb).2.2
    · exact hne0 b hb
  have hlt : ∀ b, B b ∨ D b → w.heap.size ≤ b ∧ b < w2.heap.size := by
    intro b hb
    rcases hb with hb | hb
    · exact ⟨(h.hB b hb).1, (h.hB b hb).2.1⟩
    · exact ⟨(k.hB b hb).1, (k.hB b hb).2.1⟩
  refine ⟨by rw [Fo.len_app]; exact ho, FoV.app ((h.fo.keep (fun b hb => ?_)).mono (fun b hb => .inl hb)) ((k.fo.keep (fun b hb => ?_)).mono (fun b hb => .inr hb)), fun b hb => ⟨(hlt b hb).1, Nat.lt_of_lt_of_le (hlt b hb).2 hg.size, ?_⟩⟩
  · exact hg.block b (hlt b (.inl hb)).2 (fun e => hne b (.inl hb) e.symm)
  · exact hg.block b (hlt b (.inr hb)).2 (fun e => hne b (.inr hb) e.symm)
  · rcases hk with e | e
    · rw [e]; exact hne b hb
    · rw [e]
      intro e'
      injection e' with e'
      have := (hlt b hb).2
      omega
/-- a statement, its words and places shared, laid in a new row -/
theorem lo_mix {w x : World} {ws : List ByteArray} {ps : List (Int × Int)} {vw vp vk : Value} {K : Fo} {ys : List Value} {D BK : Nat → Prop} (b : Bool) (hx : w.heap.size ≤ x.heap.size) (how : StrV x D vw ws) (hop : PosV x D vp ps) (hD : ∀ q, D q → w.heap.size ≤ q ∧ q < x.heap.size) (hk : Lo w x vk K ys BK) :
    Lo w (x.alloc (NodeC vw vp b vk)) (.slice (some ⟨x.heap.size, 0, none⟩) 1 1) (.cons ws ps b K .nil) [vw, vp, .bool b, vk] (fun q => D q ∨ vk.ownBlock = some q ∨ BK q) := by
  have hbl := bel_one x (NodeC vw vp b vk)
  obtain ⟨A, c, rfl⟩ := own_slice hk.own
  have hlt : ∀ q, (D q ∨ (Value.slice A K.len c).ownBlock = some q ∨ BK q) → w.heap.size ≤ q ∧ q < x.heap.size := by
    rintro q (h | h | h)
    · exact hD q h
    · exact own_lt hk.own h
    · exact ⟨(hk.hB q h).1, (hk.hB q h).2.1⟩
  refine ⟨⟨rfl, .inr ⟨x.heap.size, 1, _, rfl, hx, heap_new x _, Nat.le_refl _, by decide, rfl, rfl⟩⟩, ?_, fun q hq => ⟨(hlt q hq).1, by simp; have := (hlt q hq).2; omega, fun e => ?_⟩⟩
  · exact ⟨vw, vp, A, c, ys, [], rfl, (how.keep (fun q hq => hbl.block q (hD q hq).2)).mono (fun q hq => .inl hq), (hop.keep (fun q hq => hbl.block q (hD q hq).2)).mono (fun q hq => .inl hq), (own_src hk.own).below hbl, fun a ha => .inr (.inl (by rw [ha]; rfl)), (hk.fo.keep (fun q hq => hbl.block q (hk.hB q hq).2.1)).mono (fun q hq => .inr (.inr hq)), rfl⟩
  · have h2 := (hlt q hq).2
    have e' : x.heap.size = q := by injection e
    omega
/-- what inherited hands back -/
def InhOut (w0 : World) (D : Nat → Prop) (F : Fo) (w : World) (e : Ending) (w' : World) : Prop :=
  Below w.heap.size w w' ∧ ∃ v ys B, e = .returned v ∧ Lo w0 w' v F ys B ∧ (∀ q, v.ownBlock = some q → w.heap.size ≤ q) ∧ ∀ q, B q → D q ∨ w.heap.size ≤ q
structure InL (w0 w wr : World) (va : Value) (F : Fo) (i : Nat) (Fd R : Fo) (ys xs : List Value) (B D : Nat → Prop) : Prop where
  bl : Below w.heap.size w wr
  lo : Lo w0 wr va Fd ys B
  ob : ∀ q, va.ownBlock = some q → w.heap.size ≤ q
  bd : ∀ q, B q → D q ∨ w.heap.size ≤ q
  fo : FoV w D R (xs.drop (i * 4))
  len : i + R.len = F.len
  dl : Fd.len = i
  nodes : R.nodes ≤ F.nodes
  sz : szF R ≤ szF F
  gd : Gd R
  na : noAp R = true
  eq : Fd.app R = F
set_option maxHeartbeats 4000000 in
set_option maxRecDepth 100000 in
theorem inherited_any (w0 : World) (m : Value) : ∀ (n : Nat) (F : Fo), F.nodes = n → ∀ (A : Option Addr) (c : Nat) (xs : List Value) (D : Nat → Prop) (w : World), w0.heap.size ≤ w.heap.size → Src w A F.len c 4 xs → FoV w D F xs → (∀ q, D q → w0.heap.size ≤ q ∧ q < w.heap.size) → (∀ a, A = some a → a.block < w.heap.size) → szF F ≤ 1099511627776 → Gd F → noAp F = true →
    Calls Try.prog 73 #[.slice A F.len c, m] w (InhOut w0 D F w) := by
  intro n
  induction n using Nat.strongRecOn with
  | _ n ih =>
  intro F hn A c xs D w hw0 hs hf hD hA hsz hgd hna
  obtain ⟨ni, nz0, nz, ns, nb⟩ := info_parts infoN
  have HIH := hide ih
  have HS := hide hs
  have HST := hide (show InL w0 w w (.slice none 0 0) F 0 .nil F [] xs (fun _ => False) D from ⟨Below.refl _ _, (lo_start w).base hw0, fun q e => (by cases e), fun q hq => hq.elim, by simpa using hf, by simp, rfl, Nat.le_refl _, Nat.le_refl _, hgd, hna, rfl⟩)
  have hlF := len_sz F
  have hFl : F.len ≤ 1099511627776 := by omega
  have HD := hide hD
  have HA := hide hA
  have HN := hide hn
  have HZ := hide hsz
  have HW0 := hide hw0
  clear hs hf hD hA hsz hgd ih hn hlF hna hw0
  go_enter Try.func73, Try.ntmps73
  go_wp2_with fail
  go_loopw [5, 6, 13] (fun va vn j wr => ∃ (i : Nat) (Fd R : Fo) (ys : List Value) (B : Nat → Prop), vn = .slice none 0 0 ∧ j = .int .i64 i ∧ InL w0 w wr va F i Fd R ys xs B D) (fun _ _ j _ => F.len - (intOf j).toNat)
  case atStart => exact ⟨0, .nil, F, [], _, rfl, rfl, HST.out⟩
  case round =>
    clear HST
    obtain ⟨i, Fd, R, zs, B, rfl, rfl, hX⟩ := hrel
    obtain ⟨Av, cv, rfl⟩ := own_slice hX.lo.own
    have HDL := hide hX.dl
    have HX := hide hX
    clear hX
    cases R with
    | nil =>
      have hi : i = F.len := by have := HX.out.len; simpa [Fo.len] using this
      have d1 : decide (i < F.len) = false := decide_eq_false (by omega)
      have d1' : decide ((i : Int) < (F.len : Int)) = false := decide_eq_false (by omega)
      have he : Fd = F := by have := HX.out.eq; rwa [Fo.app_nil] at this
      have HL := hide (show Lo w0 wr (.slice Av Fd.len cv) F zs B from by rw [← he]; exact HX.out.lo)
      clear hi he
      go_wp2_with fail
      go_loopw [5, 36] (fun va j wx => va = .slice Av Fd.len cv ∧ j = .int .i64 0 ∧ wx = wr) (fun _ j _ => 0)
      case atStart => exact ⟨rfl, rfl, rfl⟩
      case round =>
        obtain ⟨rfl, rfl, hw⟩ := hrel
        subst hw
        go_wp2_with fail
        go_ret
        exact ⟨HX.out.bl, _, _, _, rfl, HL.out, HX.out.ob, HX.out.bd⟩
    | cons ws ps blk K R =>
      have hlen : i + (R.len + 1) = F.len := HX.out.len
      have d1 : decide (i < F.len) = true := decide_eq_true (by omega)
      have d1' : decide ((i : Int) < (F.len : Int)) = true := decide_eq_true (by omega)
      have d2 : ((i : Int) < (F.len : Int)) := by omega
      have hna := HX.out.na
      rw [noAp, Bool.and_eq_true, Bool.and_eq_true] at hna
      have hap : applB ws = false := by simpa using hna.1
      have HNA := hide hna.2.2
      obtain ⟨vw, vp, Ak, ck, ys, g0, g1, g2, g3, hvw, hvp, hks, hkA, hkF, hRF⟩ := drop_fo HX.out.fo
      obtain ⟨ab, ao, rfl⟩ := src_spot HS.out (by omega) (by decide)
      have hsc := src_cells HS.out
      have hadB := HA.out _ rfl
      have c0 := cell_lo HX.out.bl (a := ⟨ab, ao + i * 4, none⟩) hadB (hsc _ _ g0)
      have c1 := cell_lo HX.out.bl (a := ⟨ab, ao + i * 4 + 1, none⟩) hadB (by rw [Nat.add_assoc]; exact hsc _ _ g1)
      have c2 := cell_lo HX.out.bl (a := ⟨ab, ao + i * 4 + 2, none⟩) hadB (by rw [Nat.add_assoc]; exact hsc _ _ g2)
      have c3 := cell_lo HX.out.bl (a := ⟨ab, ao + i * 4 + 3, none⟩) hadB (by rw [Nat.add_assoc]; exact hsc _ _ g3)
      have HVW := hide hvw
      have HVP := hide hvp
      obtain ⟨Aw, cw, rfl, hws, hwB⟩ := hvw
      obtain ⟨Ap, cp, rfl, hps, hpB⟩ := hvp
      have hno : Fo.nodes (.cons ws ps blk K R) = K.nodes + R.nodes + 1 := rfl
      have HNO := hide (show K.nodes < n ∧ R.nodes ≤ F.nodes from by have h1 := HX.out.nodes; have h2 := HN.out; omega)
      have hszR : szF (.cons ws ps blk K R) = ws.length + ps.length + 1 + szF K + szF R := rfl
      have hszb : ws.length + ps.length + 1 + szF K + szF R ≤ 1099511627776 := by have h1 := HX.out.sz; have h2 := HZ.out; omega
      have HSR := hide (show szF R ≤ szF F from by have h1 := HX.out.sz; omega)
      have hg := HX.out.gd
      have HGR := hide hg.2.2.2
      have hkl : K.len ≤ 1099511627776 := by have h1 := len_sz K; omega
      have HRF := hide hRF
      have HLEN := hide hlen
      have hdl2 : Fd.len ≤ 1099511627776 := by have := HDL.out; omega
      have hb1 := below_lo HX.out.bl (bel_one wr (NodeC (.slice Aw ws.length cw) (.slice Ap ps.length cp) blk (.slice Ak K.len ck))) HX.out.bl.size
      have HB1 := hide hb1
      have HBX := hide (show BX wr.heap.size (.slice Aw ws.length cw) (.slice Ap ps.length cp) blk (.slice Ak K.len ck) (wr.alloc (NodeC (.slice Aw ws.length cw) (.slice Ap ps.length cp) blk (.slice Ak K.len ck))) from ⟨heap_new wr _⟩)
      have HL1 := hide (HX.out.lo.grow (World.grownBy_alloc wr (NodeC (.slice Aw ws.length cw) (.slice Ap ps.length cp) blk (.slice Ak K.len ck)) none) (fun b e => by cases e))
      have HSZ := hide (show (wr.alloc (NodeC (.slice Aw ws.length cw) (.slice Ap ps.length cp) blk (.slice Ak K.len ck))).heap.size = wr.heap.size + 1 ∧ w.heap.size ≤ wr.heap.size from ⟨by simp, HX.out.bl.size⟩)
      have HAL := hide (show (∀ g, (Value.slice Av Fd.len cv).ownBlock = some g → g < wr.heap.size) ∧ ∀ q, B q → q < wr.heap.size from ⟨fun g e => (HX.out.lo.own.lt g e).2, fun q hq => (HX.out.lo.hB q hq).2.1⟩)
      have HAP := hide (applies_any ws blk Aw cw (.slice Ap ps.length cp) (.slice Ak K.len ck) (wr.alloc (NodeC (.slice Aw ws.length cw) (.slice Ap ps.length cp) blk (.slice Ak K.len ck))) hg.1 (by omega) (hws.below hb1))
      rw [hap] at HAP
      have HREC := hide (fun (x : World) (hx : Below w.heap.size w x) => HIH.out K.nodes HNO.out.1 K rfl Ak ck ys D x (Nat.le_trans HW0.out hx.size) (hks.below hx) (hkF.keep (fun q hq => hx.block q (HD.out q hq).2)) (fun q hq => ⟨(HD.out q hq).1, Nat.lt_of_lt_of_le (HD.out q hq).2 hx.size⟩) (fun a ha => Nat.lt_of_lt_of_le (HD.out _ (hkA a ha)).2 hx.size) (by omega) hg.2.2.1 (by simpa using hna.2.1))
      clear hsc g0 g1 g2 g3 hks hkA hkF hRF hws hwB hps hpB hno hszR hszb hg hlen hadB hb1 hna hap
      go_wp2_with fail
      refine HAP.out.mono ?_
      generalize wr.alloc (NodeC (.slice Aw ws.length cw) (.slice Ap ps.length cp) blk (.slice Ak K.len ck)) = w1 at *
      rintro e x1 ⟨rfl, hb2⟩
      have HB2 := hide (below_lo HB1.out hb2 HB1.out.size)
      have HBX2 := hide (HBX.out.below hb2)
      have n3 := cell_heap (j := 3) HBX2.out.h rfl
      have HL2 := hide (HL1.out.grow (grown_of_below hb2) (fun b e => by cases e))
      have HS2 := hide (show wr.heap.size + 1 ≤ x1.heap.size from by have h1 := HSZ.out.1; have h2 := hb2.size; omega)
      have HRX := hide (HREC.out x1 HB2.out)
      clear hb2 HREC HAP
      go_wp2_with fail
      refine HRX.out.mono ?_
      rintro e x2 ⟨hb3, vk, ks, BK, rfl, hlk, hob, hbk⟩
      obtain ⟨Bk, dk, rfl⟩ := own_slice hlk.own
      have HB3 := hide (below_lo HB2.out hb3 HB2.out.size)
      have HBX3 := hide (HBX2.out.below hb3)
      have HL3 := hide (HL2.out.grow (grown_of_below hb3) (fun b e => by cases e))
      have HLK := hide hlk
      have HOB := hide hob
      have HBK := hide hbk
      have HS3 := hide (show x1.heap.size ≤ x2.heap.size from hb3.size)
      have m0 := cell_heap (j := 0) HBX3.out.h rfl
      have m1 := cell_heap (j := 1) HBX3.out.h rfl
      have m2 := cell_heap (j := 2) HBX3.out.h rfl
      have m3 := cell_heap (j := 3) HBX3.out.h rfl
      have mf := frozen_heap (j := 3) HBX3.out.h
      have HOX := hide (only_set (only_refl wr.heap.size x2) 3 (.slice Bk K.len dk))
      have hst := heap_set (j := 3) (u := .slice Bk K.len dk) HBX3.out.h
      have HST := hide hst
      have q0 := cell_heap (j := 0) hst rfl
      have q1 := cell_heap (j := 1) hst rfl
      have q2 := cell_heap (j := 2) hst rfl
      have q3 := cell_heap (j := 3) hst rfl
      have HB4 := hide (HB3.out.setCell (p := ⟨wr.heap.size, 3, none⟩) HSZ.out.2 (.slice Bk K.len dk))
      have HL4 := hide (HL3.out.kept2 HOX.out (fun b e => by
        injection e with e
        subst e
        exact ⟨fun e2 => by have := HAL.out.1 _ e2; omega, fun e2 => by have := HAL.out.2 _ e2; omega⟩))
      have HK4 := hide (HLK.out.kept2 HOX.out (fun b e => by
        injection e with e
        subst e
        have h1 := HS2.out
        refine ⟨fun e2 => by have := HOB.out _ e2; omega, fun e2 => ?_⟩
        have h3 := HSZ.out.2
        rcases HBK.out _ e2 with h2 | h2
        · have := (HD.out _ h2).2; omega
        · omega))
      have HSX := hide (show (x2.setCell ⟨wr.heap.size, 3, none⟩ (.slice Bk K.len dk)).heap.size = x2.heap.size from by simp [World.setCell])
      clear hb3 hlk hob hbk n3 HRX hst
      go_wp2_with (at_builtin; go_must (refine wpList_append_own_at _ rfl (.tmp 29) (.tmp 31) 36 rfl w0.heap.size 44 ni _ 4 80 Try.underlying36 nz0 nz ns nb rfl (by decide) _ _ _ rfl (HL4.out.own.alloc _) ⟨x2.heap.size, 0, none⟩ 1 1 [.slice Aw ws.length cw, .slice Ap ps.length cp, .bool blk, .slice Bk K.len dk] rfl rfl ?rw ?ones ?c63 ?cby ?cbase ?_))
      case rw =>
        have := row_at (heap_new (x2.setCell ⟨wr.heap.size, 3, none⟩ (.slice Bk K.len dk)) (NodeC (.slice Aw ws.length cw) (.slice Ap ps.length cp) blk (.slice Bk K.len dk)))
        rw [HSX.out] at this
        exact this
      case ones => simp [Value.oneCell']
      case c63 => unfold maxLen; omega
      case cby => omega
      case cbase => have h1 := HW0.out; have h2 := HB4.out.size; rw [World.size_alloc]; omega
      intro v' w4 hown hgr _ hk2
      generalize hxx : x2.setCell ⟨wr.heap.size, 3, none⟩ (.slice Bk K.len dk) = x3 at *
      have hlm := lo_mix blk (w := w0) (x := x3) (D := D) (by have h1 := HW0.out; have h2 := HB4.out.size; omega) (HVW.out.keep (fun q hq => HB4.out.block q (HD.out q hq).2)) (HVP.out.keep (fun q hq => HB4.out.block q (HD.out q hq).2)) (fun q hq => ⟨(HD.out q hq).1, Nat.lt_of_lt_of_le (HD.out q hq).2 HB4.out.size⟩) HK4.out
      have hl5 := HL4.out.grow (World.grownBy_alloc x3 (NodeC (.slice Aw ws.length cw) (.slice Ap ps.length cp) blk (.slice Bk K.len dk)) none) (fun b e => by cases e)
      have hap := Lo.app2 hl5 hlm (fun q hq e => by
        have h1 := HX.out.ob q e
        have h4 := HAL.out.1 q e
        have h5 := HS2.out
        rcases hq with h | h | h
        · have := (HD.out q h).2; omega
        · have := HOB.out q h; omega
        · rcases HBK.out q h with h | h
          · have := (HD.out q h).2; omega
          · omega) hown hgr (by
          rw [World.size_alloc]
          rcases hk2 with h | h
          · exact .inl h
          · exact .inr (by rw [h, HSX.out]))
      have hb5 := below_lo HB4.out (bel_one x3 (NodeC (.slice Aw ws.length cw) (.slice Ap ps.length cp) blk (.slice Bk K.len dk))) HB4.out.size
      have HF := hide (show InL w0 w w4 v' F (i + 1) (Fd.app (.cons ws ps blk K .nil)) R _ xs _ D from ⟨hb5.grown hgr hb5.size (fun g e => HX.out.ob g e), hap, fun q e => by
        rcases hk2 with h | h
        · exact HX.out.ob q (by rw [← h]; exact e)
        · rw [h] at e
          injection e with e
          have h1 := HB3.out.size
          omega, fun q hq => by
          have h5 := HS2.out
          have h3 := HSZ.out.2
          rcases hq with h | h | h | h
          · exact HX.out.bd q h
          · exact .inl h
          · exact .inr (by have := HOB.out q h; omega)
          · rcases HBK.out q h with h | h
            · exact .inl h
            · exact .inr (by omega), HRF.out, by have := HLEN.out; omega, by rw [Fo.len_app, HDL.out]; rfl, HNO.out.2, HSR.out, HGR.out, HNA.out, by rw [app_cons]; exact HX.out.eq⟩)
      clear hown hgr hk2 hap hlm hl5 hb5 hxx
      go_wp2_with fail
      go_roundw
      case rel => exact ⟨i + 1, _, _, _, _, rfl, by go_num, HF.out⟩
      case measure => have := HLEN.out; simp [intOf]; omega
end Go.Proofs.Ytihmmmodimionaa.Tr
/- inPlace: whether a statement stands in the place of a leaf. -/
namespace Go.Proofs.Ytihmmmodimionaa.Tr
open Go.RowKit Go.Proofs.Ytihmmmodimionaa Go.Proofs.Ytihmmmodimionaa.Lx

def inPl (us ws : List ByteArray) : Bool := us.length == ws.length && decide (us.take (max (ws.length - 1) 1) = ws.take (max (ws.length - 1) 1))
theorem src_take {x : World} {A : Option Addr} {c k : Nat} {us : List ByteArray} (h : Src x A us.length c 1 (us.map Value.string)) (h1 : 1 ≤ us.length) (hk : k ≤ us.length) : Src x A (us.take k).length c 1 ((us.take k).map Value.string) := by
  obtain ⟨b, o, rfl⟩ := src_spot h h1 (Nat.le_refl _)
  refine ⟨by simp, .inr ⟨_, rfl, fun j u hj => ?_⟩⟩
  rw [Addr.add_lit]
  refine src_cells h j u ?_
  rw [List.map_take] at hj
  have hj2 : j < k := by
    rcases Nat.lt_or_ge j k with h' | h'
    · exact h'
    · rw [List.getElem?_eq_none (by rw [List.length_take, List.length_map]; omega)] at hj; cases hj
  rw [List.getElem?_take_of_lt hj2] at hj
  exact hj
set_option maxHeartbeats 2000000 in
set_option maxRecDepth 100000 in
theorem inPlace_any (us ws : List ByteArray) (b b' : Bool) (A B : Option Addr) (cu cw : Nat) (up uk wp wk : Value) (x : World) (h1 : 1 ≤ us.length) (h2 : 1 ≤ ws.length) (l1 : us.length ≤ 1099511627776) (l2 : ws.length ≤ 1099511627776) (cu1 : us.length ≤ cu) (cw1 : ws.length ≤ cw) (hu : Src x A us.length cu 1 (us.map Value.string)) (hw : Src x B ws.length cw 1 (ws.map Value.string)) :
    Calls Try.prog 102 #[.agg #[.slice A us.length cu, up, .bool b, uk], .agg #[.slice B ws.length cw, wp, .bool b', wk]] x fun e x' => e = .returned (.bool (inPl us ws)) ∧ Below x.heap.size x x' := by
  obtain ⟨ub, uo, rfl⟩ := src_spot hu h1 (Nat.le_refl _)
  obtain ⟨wb, wo, rfl⟩ := src_spot hw h2 (Nat.le_refl _)
  have hb1 := bel_one x (NodeC (.slice (some ⟨ub, uo, none⟩) us.length cu) up b uk)
  have hb2 := below_wide hb1 (bel_one (x.alloc (NodeC (.slice (some ⟨ub, uo, none⟩) us.length cu) up b uk)) (NodeC (.slice (some ⟨wb, wo, none⟩) ws.length cw) wp b' wk))
  have hn1 := heap_old (p := NodeC (.slice (some ⟨wb, wo, none⟩) ws.length cw) wp b' wk) (heap_new x (NodeC (.slice (some ⟨ub, uo, none⟩) us.length cu) up b uk))
  have hn2 := heap_new2 x (NodeC (.slice (some ⟨ub, uo, none⟩) us.length cu) up b uk) (NodeC (.slice (some ⟨wb, wo, none⟩) ws.length cw) wp b' wk)
  have HB2 := hide hb2
  have HU := hide (hu.below hb2)
  have HW := hide (hw.below hb2)
  have a0 := cell_heap (j := 0) hn2 rfl
  have k0 := lat_cell (cell_heap (j := 0) hn1 rfl)
  have k1 := lat_cell (cell_heap (j := 0) hn2 rfl)
  have d1 : (1 : Int) ≤ ws.length := by omega
  clear hb1 hb2 hn1 hn2 hu hw
  by_cases hne : us.length = ws.length
  · have e1 : (us.length == ws.length) = true := beq_iff_eq.2 hne
    have e1' : ((us.length : Int) == (ws.length : Int)) = true := beq_it (by omega)
    obtain ⟨k, hk⟩ : ∃ k, k = max (ws.length - 1) 1 := ⟨_, rfl⟩
    have hmx : max ((ws.length : Int) - 1) 1 = (k : Int) := by omega
    have hk1 : 1 ≤ k ∧ k ≤ ws.length := by omega
    have z1 : (k : Int) ≤ (cu : Int) := by omega
    have z2 : (k : Int) ≤ (cw : Int) := by omega
    have z3 : k ≤ cu := by omega
    have z4 : k ≤ cw := by omega
    have HEQ := hide (show ∀ y, Calls Try.prog 38 #[.slice (some ⟨ub, uo, none⟩) k cu, .slice (some ⟨wb, wo, none⟩) k cw] (lat ((x.alloc (NodeC (.slice (some ⟨ub, uo, none⟩) us.length cu) up b uk)).alloc (NodeC (.slice (some ⟨wb, wo, none⟩) ws.length cw) wp b' wk)) y) (fun e x' => e = .returned (.bool (inPl us ws)) ∧ Below (lat ((x.alloc (NodeC (.slice (some ⟨ub, uo, none⟩) us.length cu) up b uk)).alloc (NodeC (.slice (some ⟨wb, wo, none⟩) ws.length cw) wp b' wk)) y).heap.size (lat ((x.alloc (NodeC (.slice (some ⟨ub, uo, none⟩) us.length cu) up b uk)).alloc (NodeC (.slice (some ⟨wb, wo, none⟩) ws.length cw) wp b' wk)) y) x') from fun y => by
      have e1 : (us.take k).length = k := by rw [List.length_take]; omega
      have e2 : (ws.take k).length = k := by rw [List.length_take]; omega
      have := eq_str (us.take k) (ws.take k) (lat ((x.alloc (NodeC (.slice (some ⟨ub, uo, none⟩) us.length cu) up b uk)).alloc (NodeC (.slice (some ⟨wb, wo, none⟩) ws.length cw) wp b' wk)) y) (src_take (HU.out.below (lat_below _ y)) h1 (by omega)) (src_take (HW.out.below (lat_below _ y)) h2 hk1.2) (by omega) (by omega)
      rw [e1, e2] at this
      refine this.mono ?_
      rintro e x' ⟨rfl, hb⟩
      exact ⟨by unfold inPl; rw [beq_iff_eq.2 hne, ← hk]; rfl, hb⟩)
    clear hne hk
    go_enter Try.func102, Try.ntmps102
    go_wp2_with fail
    refine wp_region_lat (by kernel_rfl) (by kernel_rfl) ?_
    repeat (first | go_big_quiet_step ((exact calls_lat (HEQ.out _))) | quiet_step ((exact calls_lat (HEQ.out _))))
    refine wpQuiet_nil ?_
    intro _ hlat
    obtain ⟨wq, rfl⟩ := hlat
    have HBL := hide (below_wide HB2.out (lat_below _ wq))
    go_wp2_with fail
    go_ret
    exact ⟨rfl, HBL.out⟩
  · have e1 : (us.length == ws.length) = false := beq_eq_false_iff_ne.2 hne
    have e1' : ((us.length : Int) == (ws.length : Int)) = false := beq_if (by omega)
    have HE := hide (show inPl us ws = false from by unfold inPl; rw [e1]; rfl)
    clear hne
    go_enter Try.func102, Try.ntmps102
    go_wp2_with fail
    refine wp_region_lat (by kernel_rfl) (by kernel_rfl) ?_
    repeat (first | go_big_quiet_step ((fail)) | quiet_step ((fail)))
    refine wpQuiet_nil ?_
    intro _ hlat
    obtain ⟨wq, rfl⟩ := hlat
    have HBL := hide (below_wide HB2.out (lat_below _ wq))
    go_wp2_with fail
    go_ret
    exact ⟨by rw [HE.out]; rfl, HBL.out⟩
end Go.Proofs.Ytihmmmodimionaa.Tr
