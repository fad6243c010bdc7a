import Derived.Test.YtihmmmodimionaaDoorLX
import Derived.Test.YtihmmmodimionaaDoorT
namespace Go.Proofs.YtihmmmodimionaaDoor.Lx
open Go.RowKit

theorem infoRWord : (Tryd.prog.info? 63).map (fun i => (i.zero, i.size, i.bytes)) = some (some (.agg #[.string { data := #[] }, .int .i64 0, .int .i64 0]), 3, 32) := by kernel_rfl
def indOf : List BWd → Int
  | [] => 0
  | x :: _ => x.c - 1
/-- what the document's words hands back -/
def WdsOut (row : ByteArray) (n : Int) (w : World) (e : Ending) (w' : World) : Prop :=
  ∃ v ws, e = .returned (.agg #[.int .i64 (indOf ws), v]) ∧ ws.map BWd.wd = wds (T row) 0 [] ∧ w'.ownsRow w.heap.size 63 3 v ws.length (ws.flatMap (BWd.cells n)) ∧ Below w.heap.size w w' ∧ ws.length ≤ row.size + 1
/-- what stands at the head of each round -/
structure WL (row : ByteArray) (n : Int) (w : World) (wr : World) (fr : Int) (i : Nat) (wv : Value) (ws : List BWd) (cur : List UInt8) : Prop where
  le : i ≤ row.size + 1
  len : ws.length ≤ i
  lb : wr.heap[w.heap.size + 1]? = some (.cells #[.int .i64 (indOf ws), wv] 61 (0, 0))
  rb : wr.heap[w.heap.size]? = some (.cells #[.int .i64 0, .slice none 0 0] 61 (0, 0))
  wown : wr.ownsRow (w.heap.size + 2) 63 3 wv ws.length (ws.flatMap (BWd.cells n))
  bel : Below w.heap.size w wr
  from_ : (fr = -1 ∧ cur = []) ∨ ∃ f : Nat, fr = f ∧ f < i ∧ i ≤ row.size ∧ cur = ((T row).take i).drop f
  eq : i ≤ row.size → wds (T row) 0 [] = ws.map BWd.wd ++ wds ((T row).drop i) i cur
  fin : i = row.size + 1 → wds (T row) 0 [] = ws.map BWd.wd

/-- behind the store of the indent -/
structure WZ (row : ByteArray) (n : Int) (w wz : World) (f : Nat) (A : Option Addr) (c : Nat) (ws : List BWd) : Prop where
  lb : wz.heap[w.heap.size + 1]? = some (.cells #[.int .i64 (if ws = [] then (f : Int) else indOf ws), .slice A ws.length c] 61 (0, 0))
  rb : wz.heap[w.heap.size]? = some (.cells #[.int .i64 0, .slice none 0 0] 61 (0, 0))
  wown : wz.ownsRow (w.heap.size + 2) 63 3 (.slice A ws.length c) ws.length (ws.flatMap (BWd.cells n))
  bel : Below w.heap.size w wz
theorem WZ.more {row : ByteArray} {n : Int} {w wz : World} {f : Nat} {A : Option Addr} {c : Nat} {ws : List BWd} (h : WZ row n w wz f A c ws) {o : Obj} {v' : Value} {w5 : World} {i : Nat} {x : ByteArray}
    (hown : w5.ownsRow (w.heap.size + 2) 63 3 v' (ws.length + 1) (ws.flatMap (BWd.cells n) ++ [.string x, .int .i64 n, .int .i64 (f + 1)])) (hg : (wz.drew.alloc o).grownBy w5 (Value.slice A ws.length c).ownBlock) (hi : i ≤ row.size) (hl : ws.length ≤ i)
    (hn : (i + 1 ≤ row.size → wds (T row) 0 [] = (ws ++ [(⟨x, f + 1⟩ : BWd)]).map BWd.wd ++ wds ((T row).drop (i + 1)) ((i + 1 : Nat) : Int) []) ∧ (i + 1 = row.size + 1 → wds (T row) 0 [] = (ws ++ [(⟨x, f + 1⟩ : BWd)]).map BWd.wd)) :
    WL row n w (w5.setCell ⟨w.heap.size + 1, 1, none⟩ v') (-1) (i + 1) v' (ws ++ [⟨x, f + 1⟩]) [] := by
  have hwo := h.wown.drew.alloc o
  have hlt := fun g hg => hwo.lt g hg
  have hnb : ∀ g, g ≤ w.heap.size + 1 → (Value.slice A ws.length c).ownBlock ≠ some g := fun g hgl he => by have := hlt g he; omega
  have hbl : Below w.heap.size w w5 := (h.bel.drew.alloc h.bel.size o).grown hg (Nat.le_trans h.bel.size (by simp)) (fun k hk => by have := (hlt k hk).1; omega)
  have hz : indOf (ws ++ [(⟨x, f + 1⟩ : BWd)]) = if ws = [] then (f : Int) else indOf ws := by
    cases ws with
    | nil => simp [indOf]
    | cons y ys => simp [indOf]
  refine ⟨by omega, by simp; omega, ?_, ?_, ?_, hbl.setCell (p := ⟨w.heap.size + 1, 1, none⟩) (by simp) _, .inl ⟨rfl, rfl⟩, hn.1, hn.2⟩
  · rw [hz]
    exact heap_set (heap_grown (heap_old (w := wz.drew) h.lb) hg (hnb _ (Nat.le_refl _)))
  · exact heap_far (heap_grown (heap_old (w := wz.drew) h.rb) hg (hnb _ (by omega))) (by show w.heap.size ≠ _; simp)
  · have h1 : w5.ownsRow (w.heap.size + 2) 63 3 v' (ws ++ [(⟨x, f + 1⟩ : BWd)]).length ((ws ++ [(⟨x, f + 1⟩ : BWd)]).flatMap (BWd.cells n)) := by simpa [BWd.cells] using hown
    exact ownsRow_setCell_other h1 (fun he => by have := (h1.lt _ he).1; simp at this) _

set_option maxRecDepth 100000 in
set_option maxHeartbeats 4000000 in
theorem words_any (row : ByteArray) (n : Int) (w : World) (hlen : row.size ≤ 65536) :
    Calls Tryd.prog 26 #[.string row, .int .i64 n] w (WdsOut row n w) := by
  go_enter Tryd.func26, Tryd.ntmps26
  go_wp2_with fail
  go_loopw [6, 7] (fun fv j wr => ∃ (fr : Int) (i : Nat) (wv : Value) (ws : List BWd) (cur : List UInt8), fv = .int .i64 fr ∧ j = .int .i64 i ∧ WL row n w wr fr i wv ws cur) (fun _ j _ => row.size + 1 - (intOf j).toNat)
  case atStart =>
    refine ⟨-1, 0, .slice none 0 0, [], [], rfl, rfl, ⟨by omega, Nat.le_refl _, heap_new2 _ _ _, heap_old (heap_new _ _), World.ownsRow_nil _ _ _ _, bel_two _ _ _, .inl ⟨rfl, rfl⟩, fun _ => rfl, fun h => by omega⟩⟩
  case round =>
    obtain ⟨fr, i, wv, ws, cur, rfl, rfl, hwl⟩ := hrel
    have hle := hwl.le
    have hln := hwl.len
    have l0 := cell_heap (j := 0) hwl.lb rfl
    have l1 := cell_heap (j := 1) hwl.lb rfl
    have r0 := cell_heap (j := 0) hwl.rb rfl
    have r1 := cell_heap (j := 1) hwl.rb rfl
    have fl0 := frozen_heap (j := 0) hwl.lb
    have fl1 := frozen_heap (j := 1) hwl.lb
    have fr0 := frozen_heap (j := 0) hwl.rb
    have fr1 := frozen_heap (j := 1) hwl.rb
    have HW := hide hwl
    clear hwl
    by_cases hi : i ≤ row.size
    case neg =>
      have hfin := hide (HW.out.fin (by omega))
      obtain ⟨A, c, rfl⟩ := own_slice HW.out.wown
      go_wp2_with fail
      refine bodyPost_ret (v := .agg #[.int .i64 (indOf ws), .slice A ws.length c]) (by simp [results, Tryd.results26, go_sem, r0, r1]) rfl ?_
      refine ⟨_, ws, rfl, hfin.out.symm, ?_, ((HW.out.bel.setCell (p := ⟨w.heap.size, 0, none⟩) (Nat.le_refl _) _).setCell (p := ⟨w.heap.size, 1, none⟩) (Nat.le_refl _) _), by omega⟩
      have hne : (Value.slice A ws.length c).ownBlock ≠ some w.heap.size := fun he => by have := (HW.out.wown.lt _ he).1; omega
      exact own_base (ownsRow_setCell_other (ownsRow_setCell_other HW.out.wown hne _) hne _) (by omega)
    by_cases hch : ∃ h : i < row.size, ¬ (row[i].toNat : Int) = 32
    · obtain ⟨hlt, hx⟩ := hch
      have hx1 : ((row[i].toNat : Int) == 32) = false := beq_if hx
      have hx2 : ((row[i].toNat : Int) != 32) = true := by rw [bne, hx1]; rfl
      have hne : ¬ row[i] = 32 := fun e => hx (by have := (u8_eq row[i] 32 (by omega)).1 e; omega)
      have heq := HW.out.eq hi
      rw [T_drop row i hlt, wds, if_neg hne] at heq
      rcases HW.out.from_ with ⟨rfl, rfl⟩ | ⟨f, rfl, hfi, _, hcur⟩
      · have HE := hide heq
        clear heq hne
        go_wp2_with fail
        refine ⟨⟨(i : Int), i + 1, wv, ws, [row[i]], rfl, by go_num, ⟨by omega, by omega, HW.out.lb, HW.out.rb, HW.out.wown, HW.out.bel, .inr ⟨i, rfl, by omega, by omega, ?_⟩, fun _ => HE.out, fun h => by omega⟩⟩, by simp [intOf]; omega⟩
        rw [T_take row i hlt, List.drop_append_of_le_length (by rw [List.length_take, T_len]; omega), List.drop_eq_nil_of_le (by rw [List.length_take, T_len]; omega)]
        rfl
      · have HE := hide heq
        have hf0 : (0 : Int) ≤ f := by omega
        clear heq hne
        go_wp2_with fail
        refine ⟨⟨(f : Int), i + 1, wv, ws, cur ++ [row[i]], rfl, by go_num, ⟨by omega, by omega, HW.out.lb, HW.out.rb, HW.out.wown, HW.out.bel, .inr ⟨f, rfl, by omega, by omega, ?_⟩, fun _ => HE.out, fun h => by omega⟩⟩, by simp [intOf]; omega⟩
        rw [T_take row i hlt, List.drop_append_of_le_length (by rw [List.length_take, T_len]; omega), hcur]
    have hnext : ∀ ws' : List BWd, ws'.map BWd.wd = ws.map BWd.wd ++ endW i cur → (i + 1 ≤ row.size → wds (T row) 0 [] = ws'.map BWd.wd ++ wds ((T row).drop (i + 1)) ((i + 1 : Nat) : Int) []) ∧ (i + 1 = row.size + 1 → wds (T row) 0 [] = ws'.map BWd.wd) := by
      intro ws' hws
      have heq := HW.out.eq hi
      refine ⟨fun h => ?_, fun h => ?_⟩
      · have hlt : i < row.size := by omega
        have hx : row[i] = 32 := by
          have h2 : (row[i].toNat : Int) = 32 := by
            by_cases e : (row[i].toNat : Int) = 32
            · exact e
            · exact absurd ⟨hlt, e⟩ hch
          exact (u8_eq row[i] 32 (by omega)).2 (by omega)
        rw [T_drop row i hlt, wds, if_pos hx, ← List.append_assoc, ← hws] at heq
        rw [heq]; push_cast; rfl
      · rw [List.drop_eq_nil_of_le (by rw [T_len]; omega), wds, ← hws] at heq
        exact heq
    by_cases hlt : i < row.size
    · have hx1 : ((row[i].toNat : Int) == 32) = true := by
        apply beq_it
        by_cases e : (row[i].toNat : Int) = 32
        · exact e
        · exact absurd ⟨hlt, e⟩ hch
      have hx2 : ((row[i].toNat : Int) != 32) = false := by rw [bne, hx1]; rfl
      clear hch
      rcases HW.out.from_ with ⟨rfl, rfl⟩ | ⟨f, rfl, hfi, _, hcur⟩
      · have hn := hnext ws (by simp [endW])
        have HN := hide hn
        clear hn hnext
        go_wp2_with fail
        exact ⟨⟨-1, i + 1, wv, ws, [], rfl, by go_num, ⟨by omega, by omega, HW.out.lb, HW.out.rb, HW.out.wown, HW.out.bel, .inl ⟨rfl, rfl⟩, HN.out.1, HN.out.2⟩⟩, by simp [intOf]; omega⟩
      · have hcl : cur.length = i - f := by rw [hcur, List.length_drop, List.length_take, T_len]; omega
        have hcn : cur ≠ [] := by intro e; rw [e] at hcl; simp at hcl; omega
        have htx : T (row.extract f i) = cur := by rw [T_extract, hcur]
        have hn := hnext (ws ++ [⟨row.extract f i, f + 1⟩]) (by
          simp only [List.map_append, List.map_cons, List.map_nil, BWd.wd, htx, endW, if_neg hcn, hcl]
          congr 3
          omega)
        have HN := hide hn
        have hf0 : (0 : Int) ≤ f := by omega
        have hfi2 : (f : Int) ≤ i := by omega
        have hi2 : (i : Int) ≤ row.size := by omega
        clear hn hnext hcl hcn htx hcur
        obtain ⟨i1, hi1, iz1, is1, ib1⟩ := info_parts infoRWord
        obtain ⟨A, c, rfl⟩ := own_slice HW.out.wown
        by_cases hws : ws = []
        · have hlz : ((ws.length : Int) == 0) = true := by rw [hws]; rfl
          have HZ := hide (show WZ row n w (wr.setCell ⟨w.heap.size + 1, 0, none⟩ (.int .i64 f)) f A c ws from ⟨by rw [if_pos hws]; exact heap_set HW.out.lb, heap_far HW.out.rb (by show w.heap.size ≠ _; simp), ownsRow_setCell_other HW.out.wown (fun he => by have := (HW.out.wown.lt _ he).1; simp at this) _, HW.out.bel.setCell (p := ⟨w.heap.size + 1, 0, none⟩) (by simp) _⟩)
          clear hws
          go_wp2_with fail
          generalize wr.setCell ⟨w.heap.size + 1, 0, none⟩ (.int .i64 f) = wz at *
          clear l0 l1 r0 r1 fl0 fl1 fr0 fr1 HW
          have l1 := fun o => cell_heap (j := 1) (heap_old (w := wz.drew) (p := o) HZ.out.lb) rfl
          have l2 := cell_heap (j := 1) HZ.out.lb rfl
          have l3 := fun o => cell_heap (j := 1) (heap_old (w := wz) (p := o) HZ.out.lb) rfl
          have hltz := lt_heap HZ.out.lb
          have hnez : ¬ w.heap.size + 1 = wz.heap.size := by omega
          have HOWN2 := hide (HZ.out.wown.drew.alloc (Obj.cells #[.string (row.extract f i), .int .i64 n, .int .i64 (f + 1)] 63))
          refine wp_region_two [0, 2, 3, 4, 5, 6, 7, 8, 9, 10] 1 11 [11, 12, 13, 14] [1, 12, 13, 14] (by kernel_rfl) (by kernel_rfl) rfl (by kernel_rfl) (by kernel_rfl) (.cons (.zero) (.cons (.succ (.succ (.zero))) (.cons (.succ (.succ (.succ (.zero)))) (.cons (.succ (.succ (.succ (.succ (.zero))))) (.cons (.succ (.succ (.succ (.succ (.succ (.zero)))))) (.cons (.succ (.succ (.succ (.succ (.succ (.succ (.zero))))))) (.cons (.succ (.succ (.succ (.succ (.succ (.succ (.succ (.zero)))))))) (.cons (.succ (.succ (.succ (.succ (.succ (.succ (.succ (.succ (.zero))))))))) (.cons (.succ (.succ (.succ (.succ (.succ (.succ (.succ (.succ (.succ (.zero)))))))))) (.cons (.succ (.succ (.succ (.succ (.succ (.succ (.succ (.succ (.succ (.succ (.zero))))))))))) .nil)))))))))) (.cons (.succ (.zero)) (.cons (.succ (.succ (.succ (.succ (.succ (.succ (.succ (.succ (.succ (.succ (.succ (.zero)))))))))))) (.cons (.succ (.succ (.succ (.succ (.succ (.succ (.succ (.succ (.succ (.succ (.succ (.succ (.zero))))))))))))) (.cons (.succ (.succ (.succ (.succ (.succ (.succ (.succ (.succ (.succ (.succ (.succ (.succ (.succ (.zero)))))))))))))) (.cons (.succ (.succ (.succ (.succ (.succ (.succ (.succ (.succ (.succ (.succ (.succ (.succ (.succ (.succ (.zero))))))))))))))) .nil))))) (.cons (.succ (.succ (.succ (.succ (.succ (.succ (.succ (.succ (.succ (.succ (.succ (.zero)))))))))))) (.cons (.succ (.zero)) (.cons (.succ (.succ (.succ (.succ (.succ (.succ (.succ (.succ (.succ (.succ (.succ (.succ (.zero))))))))))))) (.cons (.succ (.succ (.succ (.succ (.succ (.succ (.succ (.succ (.succ (.succ (.succ (.succ (.succ (.zero)))))))))))))) (.cons (.succ (.succ (.succ (.succ (.succ (.succ (.succ (.succ (.succ (.succ (.succ (.succ (.succ (.succ (.zero))))))))))))))) .nil))))) (fun _ _ _ _ _ h => h) ?_
          repeat (first | go_big_quiet_step ((fail)) | quiet_step ((fail)))
          refine wpQuiet_nil ?_
          constructor
          · go_wp2_with (at_builtin; (refine wpList_append_own _ rfl (.tmp 36) (.tmp 46) 59 rfl (w.heap.size + 2) 63 i1 _ 3 32 Tryd.underlying59 hi1 iz1 is1 ib1 rfl (by decide) _ ws.length (ws.flatMap (BWd.cells n)) rfl HOWN2.out ⟨wz.heap.size, 0, none⟩ 1 1 [.string (row.extract f i), .int .i64 n, .int .i64 (f + 1)] rfl rfl ?cells ?ones ?c63 ?cby ?cbase ?_))
            case cells =>
              intro j u hj
              match j, hj with
              | 0, hj => simp at hj; subst hj; simp [Addr.add, go_sem]
              | 1, hj => simp at hj; subst hj; simp [Addr.add, go_sem]
              | 2, hj => simp at hj; subst hj; simp [Addr.add, go_sem]
              | j + 3, hj => simp at hj
            case ones => simp [Value.oneCell']
            case c63 => unfold maxLen; omega
            case cby => omega
            case cbase => have := lt_heap HZ.out.lb; simp; omega
            intro v' w5 hown' hgrow _
            obtain ⟨A', c', rfl⟩ := own_slice hown'
            have hlb5 := heap_grown (heap_old (w := wz.drew) HZ.out.lb) hgrow (fun he => by have := (HOWN2.out.lt _ he).1; omega)
            have l1 := cell_heap (j := 1) hlb5 rfl
            have fl1 := frozen_heap (j := 1) hlb5
            have HGR := hide hgrow
            have HOW := hide hown'
            clear hgrow hown' hlb5
            go_wp2_with fail
            exact ⟨⟨-1, i + 1, _, _, [], rfl, by go_num, HZ.out.more HOW.out HGR.out hi hln HN.out⟩, by simp [intOf]; omega⟩
          · go_wp2_with (at_builtin; (refine wpList_append_own _ rfl (.tmp 36) (.tmp 46) 59 rfl (w.heap.size + 2) 63 i1 _ 3 32 Tryd.underlying59 hi1 iz1 is1 ib1 rfl (by decide) _ ws.length (ws.flatMap (BWd.cells n)) rfl HOWN2.out ⟨wz.heap.size, 0, none⟩ 1 1 [.string (row.extract f i), .int .i64 n, .int .i64 (f + 1)] rfl rfl ?cells ?ones ?c63 ?cby ?cbase ?_))
            case cells =>
              intro j u hj
              match j, hj with
              | 0, hj => simp at hj; subst hj; simp [Addr.add, go_sem]
              | 1, hj => simp at hj; subst hj; simp [Addr.add, go_sem]
              | 2, hj => simp at hj; subst hj; simp [Addr.add, go_sem]
              | j + 3, hj => simp at hj
            case ones => simp [Value.oneCell']
            case c63 => unfold maxLen; omega
            case cby => omega
            case cbase => have := lt_heap HZ.out.lb; simp; omega
            intro v' w5 hown' hgrow _
            obtain ⟨A', c', rfl⟩ := own_slice hown'
            have hlb5 := heap_grown (heap_old (w := wz.drew) HZ.out.lb) hgrow (fun he => by have := (HOWN2.out.lt _ he).1; omega)
            have l1 := cell_heap (j := 1) hlb5 rfl
            have fl1 := frozen_heap (j := 1) hlb5
            have HGR := hide hgrow
            have HOW := hide hown'
            clear hgrow hown' hlb5
            go_wp2_with fail
            exact ⟨⟨-1, i + 1, _, _, [], rfl, by go_num, HZ.out.more HOW.out HGR.out hi hln HN.out⟩, by simp [intOf]; omega⟩
        · have hlz : ((ws.length : Int) == 0) = false := by
            cases ws with
            | nil => exact absurd rfl hws
            | cons x xs => simp; omega
          have HZ := hide (show WZ row n w wr f A c ws from ⟨by rw [if_neg hws]; exact HW.out.lb, HW.out.rb, HW.out.wown, HW.out.bel⟩)
          clear hws
          go_wp2_with fail
          generalize wr = wz at *
          clear l0 l1 r0 r1 fl0 fl1 fr0 fr1 HW
          have l1 := fun o => cell_heap (j := 1) (heap_old (w := wz.drew) (p := o) HZ.out.lb) rfl
          have l2 := cell_heap (j := 1) HZ.out.lb rfl
          have l3 := fun o => cell_heap (j := 1) (heap_old (w := wz) (p := o) HZ.out.lb) rfl
          have hltz := lt_heap HZ.out.lb
          have hnez : ¬ w.heap.size + 1 = wz.heap.size := by omega
          have HOWN2 := hide (HZ.out.wown.drew.alloc (Obj.cells #[.string (row.extract f i), .int .i64 n, .int .i64 (f + 1)] 63))
          refine wp_region_two [0, 2, 3, 4, 5, 6, 7, 8, 9, 10] 1 11 [11, 12, 13, 14] [1, 12, 13, 14] (by kernel_rfl) (by kernel_rfl) rfl (by kernel_rfl) (by kernel_rfl) (.cons (.zero) (.cons (.succ (.succ (.zero))) (.cons (.succ (.succ (.succ (.zero)))) (.cons (.succ (.succ (.succ (.succ (.zero))))) (.cons (.succ (.succ (.succ (.succ (.succ (.zero)))))) (.cons (.succ (.succ (.succ (.succ (.succ (.succ (.zero))))))) (.cons (.succ (.succ (.succ (.succ (.succ (.succ (.succ (.zero)))))))) (.cons (.succ (.succ (.succ (.succ (.succ (.succ (.succ (.succ (.zero))))))))) (.cons (.succ (.succ (.succ (.succ (.succ (.succ (.succ (.succ (.succ (.zero)))))))))) (.cons (.succ (.succ (.succ (.succ (.succ (.succ (.succ (.succ (.succ (.succ (.zero))))))))))) .nil)))))))))) (.cons (.succ (.zero)) (.cons (.succ (.succ (.succ (.succ (.succ (.succ (.succ (.succ (.succ (.succ (.succ (.zero)))))))))))) (.cons (.succ (.succ (.succ (.succ (.succ (.succ (.succ (.succ (.succ (.succ (.succ (.succ (.zero))))))))))))) (.cons (.succ (.succ (.succ (.succ (.succ (.succ (.succ (.succ (.succ (.succ (.succ (.succ (.succ (.zero)))))))))))))) (.cons (.succ (.succ (.succ (.succ (.succ (.succ (.succ (.succ (.succ (.succ (.succ (.succ (.succ (.succ (.zero))))))))))))))) .nil))))) (.cons (.succ (.succ (.succ (.succ (.succ (.succ (.succ (.succ (.succ (.succ (.succ (.zero)))))))))))) (.cons (.succ (.zero)) (.cons (.succ (.succ (.succ (.succ (.succ (.succ (.succ (.succ (.succ (.succ (.succ (.succ (.zero))))))))))))) (.cons (.succ (.succ (.succ (.succ (.succ (.succ (.succ (.succ (.succ (.succ (.succ (.succ (.succ (.zero)))))))))))))) (.cons (.succ (.succ (.succ (.succ (.succ (.succ (.succ (.succ (.succ (.succ (.succ (.succ (.succ (.succ (.zero))))))))))))))) .nil))))) (fun _ _ _ _ _ h => h) ?_
          repeat (first | go_big_quiet_step ((fail)) | quiet_step ((fail)))
          refine wpQuiet_nil ?_
          constructor
          · go_wp2_with (at_builtin; (refine wpList_append_own _ rfl (.tmp 36) (.tmp 46) 59 rfl (w.heap.size + 2) 63 i1 _ 3 32 Tryd.underlying59 hi1 iz1 is1 ib1 rfl (by decide) _ ws.length (ws.flatMap (BWd.cells n)) rfl HOWN2.out ⟨wz.heap.size, 0, none⟩ 1 1 [.string (row.extract f i), .int .i64 n, .int .i64 (f + 1)] rfl rfl ?cells ?ones ?c63 ?cby ?cbase ?_))
            case cells =>
              intro j u hj
              match j, hj with
              | 0, hj => simp at hj; subst hj; simp [Addr.add, go_sem]
              | 1, hj => simp at hj; subst hj; simp [Addr.add, go_sem]
              | 2, hj => simp at hj; subst hj; simp [Addr.add, go_sem]
              | j + 3, hj => simp at hj
            case ones => simp [Value.oneCell']
            case c63 => unfold maxLen; omega
            case cby => omega
            case cbase => have := lt_heap HZ.out.lb; simp; omega
            intro v' w5 hown' hgrow _
            obtain ⟨A', c', rfl⟩ := own_slice hown'
            have hlb5 := heap_grown (heap_old (w := wz.drew) HZ.out.lb) hgrow (fun he => by have := (HOWN2.out.lt _ he).1; omega)
            have l1 := cell_heap (j := 1) hlb5 rfl
            have fl1 := frozen_heap (j := 1) hlb5
            have HGR := hide hgrow
            have HOW := hide hown'
            clear hgrow hown' hlb5
            go_wp2_with fail
            exact ⟨⟨-1, i + 1, _, _, [], rfl, by go_num, HZ.out.more HOW.out HGR.out hi hln HN.out⟩, by simp [intOf]; omega⟩
          · go_wp2_with (at_builtin; (refine wpList_append_own _ rfl (.tmp 36) (.tmp 46) 59 rfl (w.heap.size + 2) 63 i1 _ 3 32 Tryd.underlying59 hi1 iz1 is1 ib1 rfl (by decide) _ ws.length (ws.flatMap (BWd.cells n)) rfl HOWN2.out ⟨wz.heap.size, 0, none⟩ 1 1 [.string (row.extract f i), .int .i64 n, .int .i64 (f + 1)] rfl rfl ?cells ?ones ?c63 ?cby ?cbase ?_))
            case cells =>
              intro j u hj
              match j, hj with
              | 0, hj => simp at hj; subst hj; simp [Addr.add, go_sem]
              | 1, hj => simp at hj; subst hj; simp [Addr.add, go_sem]
              | 2, hj => simp at hj; subst hj; simp [Addr.add, go_sem]
              | j + 3, hj => simp at hj
            case ones => simp [Value.oneCell']
            case c63 => unfold maxLen; omega
            case cby => omega
            case cbase => have := lt_heap HZ.out.lb; simp; omega
            intro v' w5 hown' hgrow _
            obtain ⟨A', c', rfl⟩ := own_slice hown'
            have hlb5 := heap_grown (heap_old (w := wz.drew) HZ.out.lb) hgrow (fun he => by have := (HOWN2.out.lt _ he).1; omega)
            have l1 := cell_heap (j := 1) hlb5 rfl
            have fl1 := frozen_heap (j := 1) hlb5
            have HGR := hide hgrow
            have HOW := hide hown'
            clear hgrow hown' hlb5
            go_wp2_with fail
            exact ⟨⟨-1, i + 1, _, _, [], rfl, by go_num, HZ.out.more HOW.out HGR.out hi hln HN.out⟩, by simp [intOf]; omega⟩
    · clear hch
      rcases HW.out.from_ with ⟨rfl, rfl⟩ | ⟨f, rfl, hfi, _, hcur⟩
      · have hn := hnext ws (by simp [endW])
        have HN := hide hn
        clear hn hnext
        go_wp2_with fail
        exact ⟨⟨-1, i + 1, wv, ws, [], rfl, by go_num, ⟨by omega, by omega, HW.out.lb, HW.out.rb, HW.out.wown, HW.out.bel, .inl ⟨rfl, rfl⟩, HN.out.1, HN.out.2⟩⟩, by simp [intOf]; omega⟩
      · have hcl : cur.length = i - f := by rw [hcur, List.length_drop, List.length_take, T_len]; omega
        have hcn : cur ≠ [] := by intro e; rw [e] at hcl; simp at hcl; omega
        have htx : T (row.extract f i) = cur := by rw [T_extract, hcur]
        have hn := hnext (ws ++ [⟨row.extract f i, f + 1⟩]) (by
          simp only [List.map_append, List.map_cons, List.map_nil, BWd.wd, htx, endW, if_neg hcn, hcl]
          congr 3
          omega)
        have HN := hide hn
        have hf0 : (0 : Int) ≤ f := by omega
        have hfi2 : (f : Int) ≤ i := by omega
        have hi2 : (i : Int) ≤ row.size := by omega
        clear hn hnext hcl hcn htx hcur
        obtain ⟨i1, hi1, iz1, is1, ib1⟩ := info_parts infoRWord
        obtain ⟨A, c, rfl⟩ := own_slice HW.out.wown
        by_cases hws : ws = []
        · have hlz : ((ws.length : Int) == 0) = true := by rw [hws]; rfl
          have HZ := hide (show WZ row n w (wr.setCell ⟨w.heap.size + 1, 0, none⟩ (.int .i64 f)) f A c ws from ⟨by rw [if_pos hws]; exact heap_set HW.out.lb, heap_far HW.out.rb (by show w.heap.size ≠ _; simp), ownsRow_setCell_other HW.out.wown (fun he => by have := (HW.out.wown.lt _ he).1; simp at this) _, HW.out.bel.setCell (p := ⟨w.heap.size + 1, 0, none⟩) (by simp) _⟩)
          clear hws
          go_wp2_with fail
          generalize wr.setCell ⟨w.heap.size + 1, 0, none⟩ (.int .i64 f) = wz at *
          clear l0 l1 r0 r1 fl0 fl1 fr0 fr1 HW
          have l1 := fun o => cell_heap (j := 1) (heap_old (w := wz.drew) (p := o) HZ.out.lb) rfl
          have l2 := cell_heap (j := 1) HZ.out.lb rfl
          have l3 := fun o => cell_heap (j := 1) (heap_old (w := wz) (p := o) HZ.out.lb) rfl
          have hltz := lt_heap HZ.out.lb
          have hnez : ¬ w.heap.size + 1 = wz.heap.size := by omega
          have HOWN2 := hide (HZ.out.wown.drew.alloc (Obj.cells #[.string (row.extract f i), .int .i64 n, .int .i64 (f + 1)] 63))
          refine wp_region_two [0, 2, 3, 4, 5, 6, 7, 8, 9, 10] 1 11 [11, 12, 13, 14] [1, 12, 13, 14] (by kernel_rfl) (by kernel_rfl) rfl (by kernel_rfl) (by kernel_rfl) (.cons (.zero) (.cons (.succ (.succ (.zero))) (.cons (.succ (.succ (.succ (.zero)))) (.cons (.succ (.succ (.succ (.succ (.zero))))) (.cons (.succ (.succ (.succ (.succ (.succ (.zero)))))) (.cons (.succ (.succ (.succ (.succ (.succ (.succ (.zero))))))) (.cons (.succ (.succ (.succ (.succ (.succ (.succ (.succ (.zero)))))))) (.cons (.succ (.succ (.succ (.succ (.succ (.succ (.succ (.succ (.zero))))))))) (.cons (.succ (.succ (.succ (.succ (.succ (.succ (.succ (.succ (.succ (.zero)))))))))) (.cons (.succ (.succ (.succ (.succ (.succ (.succ (.succ (.succ (.succ (.succ (.zero))))))))))) .nil)))))))))) (.cons (.succ (.zero)) (.cons (.succ (.succ (.succ (.succ (.succ (.succ (.succ (.succ (.succ (.succ (.succ (.zero)))))))))))) (.cons (.succ (.succ (.succ (.succ (.succ (.succ (.succ (.succ (.succ (.succ (.succ (.succ (.zero))))))))))))) (.cons (.succ (.succ (.succ (.succ (.succ (.succ (.succ (.succ (.succ (.succ (.succ (.succ (.succ (.zero)))))))))))))) (.cons (.succ (.succ (.succ (.succ (.succ (.succ (.succ (.succ (.succ (.succ (.succ (.succ (.succ (.succ (.zero))))))))))))))) .nil))))) (.cons (.succ (.succ (.succ (.succ (.succ (.succ (.succ (.succ (.succ (.succ (.succ (.zero)))))))))))) (.cons (.succ (.zero)) (.cons (.succ (.succ (.succ (.succ (.succ (.succ (.succ (.succ (.succ (.succ (.succ (.succ (.zero))))))))))))) (.cons (.succ (.succ (.succ (.succ (.succ (.succ (.succ (.succ (.succ (.succ (.succ (.succ (.succ (.zero)))))))))))))) (.cons (.succ (.succ (.succ (.succ (.succ (.succ (.succ (.succ (.succ (.succ (.succ (.succ (.succ (.succ (.zero))))))))))))))) .nil))))) (fun _ _ _ _ _ h => h) ?_
          repeat (first | go_big_quiet_step ((fail)) | quiet_step ((fail)))
          refine wpQuiet_nil ?_
          constructor
          · go_wp2_with (at_builtin; (refine wpList_append_own _ rfl (.tmp 36) (.tmp 46) 59 rfl (w.heap.size + 2) 63 i1 _ 3 32 Tryd.underlying59 hi1 iz1 is1 ib1 rfl (by decide) _ ws.length (ws.flatMap (BWd.cells n)) rfl HOWN2.out ⟨wz.heap.size, 0, none⟩ 1 1 [.string (row.extract f i), .int .i64 n, .int .i64 (f + 1)] rfl rfl ?cells ?ones ?c63 ?cby ?cbase ?_))
            case cells =>
              intro j u hj
              match j, hj with
              | 0, hj => simp at hj; subst hj; simp [Addr.add, go_sem]
              | 1, hj => simp at hj; subst hj; simp [Addr.add, go_sem]
              | 2, hj => simp at hj; subst hj; simp [Addr.add, go_sem]
              | j + 3, hj => simp at hj
            case ones => simp [Value.oneCell']
            case c63 => unfold maxLen; omega
            case cby => omega
            case cbase => have := lt_heap HZ.out.lb; simp; omega
            intro v' w5 hown' hgrow _
            obtain ⟨A', c', rfl⟩ := own_slice hown'
            have hlb5 := heap_grown (heap_old (w := wz.drew) HZ.out.lb) hgrow (fun he => by have := (HOWN2.out.lt _ he).1; omega)
            have l1 := cell_heap (j := 1) hlb5 rfl
            have fl1 := frozen_heap (j := 1) hlb5
            have HGR := hide hgrow
            have HOW := hide hown'
            clear hgrow hown' hlb5
            go_wp2_with fail
            exact ⟨⟨-1, i + 1, _, _, [], rfl, by go_num, HZ.out.more HOW.out HGR.out hi hln HN.out⟩, by simp [intOf]; omega⟩
          · go_wp2_with (at_builtin; (refine wpList_append_own _ rfl (.tmp 36) (.tmp 46) 59 rfl (w.heap.size + 2) 63 i1 _ 3 32 Tryd.underlying59 hi1 iz1 is1 ib1 rfl (by decide) _ ws.length (ws.flatMap (BWd.cells n)) rfl HOWN2.out ⟨wz.heap.size, 0, none⟩ 1 1 [.string (row.extract f i), .int .i64 n, .int .i64 (f + 1)] rfl rfl ?cells ?ones ?c63 ?cby ?cbase ?_))
            case cells =>
              intro j u hj
              match j, hj with
              | 0, hj => simp at hj; subst hj; simp [Addr.add, go_sem]
              | 1, hj => simp at hj; subst hj; simp [Addr.add, go_sem]
              | 2, hj => simp at hj; subst hj; simp [Addr.add, go_sem]
              | j + 3, hj => simp at hj
            case ones => simp [Value.oneCell']
            case c63 => unfold maxLen; omega
            case cby => omega
            case cbase => have := lt_heap HZ.out.lb; simp; omega
            intro v' w5 hown' hgrow _
            obtain ⟨A', c', rfl⟩ := own_slice hown'
            have hlb5 := heap_grown (heap_old (w := wz.drew) HZ.out.lb) hgrow (fun he => by have := (HOWN2.out.lt _ he).1; omega)
            have l1 := cell_heap (j := 1) hlb5 rfl
            have fl1 := frozen_heap (j := 1) hlb5
            have HGR := hide hgrow
            have HOW := hide hown'
            clear hgrow hown' hlb5
            go_wp2_with fail
            exact ⟨⟨-1, i + 1, _, _, [], rfl, by go_num, HZ.out.more HOW.out HGR.out hi hln HN.out⟩, by simp [intOf]; omega⟩
        · have hlz : ((ws.length : Int) == 0) = false := by
            cases ws with
            | nil => exact absurd rfl hws
            | cons x xs => simp; omega
          have HZ := hide (show WZ row n w wr f A c ws from ⟨by rw [if_neg hws]; exact HW.out.lb, HW.out.rb, HW.out.wown, HW.out.bel⟩)
          clear hws
          go_wp2_with fail
          generalize wr = wz at *
          clear l0 l1 r0 r1 fl0 fl1 fr0 fr1 HW
          have l1 := fun o => cell_heap (j := 1) (heap_old (w := wz.drew) (p := o) HZ.out.lb) rfl
          have l2 := cell_heap (j := 1) HZ.out.lb rfl
          have l3 := fun o => cell_heap (j := 1) (heap_old (w := wz) (p := o) HZ.out.lb) rfl
          have hltz := lt_heap HZ.out.lb
          have hnez : ¬ w.heap.size + 1 = wz.heap.size := by omega
          have HOWN2 := hide (HZ.out.wown.drew.alloc (Obj.cells #[.string (row.extract f i), .int .i64 n, .int .i64 (f + 1)] 63))
          refine wp_region_two [0, 2, 3, 4, 5, 6, 7, 8, 9, 10] 1 11 [11, 12, 13, 14] [1, 12, 13, 14] (by kernel_rfl) (by kernel_rfl) rfl (by kernel_rfl) (by kernel_rfl) (.cons (.zero) (.cons (.succ (.succ (.zero))) (.cons (.succ (.succ (.succ (.zero)))) (.cons (.succ (.succ (.succ (.succ (.zero))))) (.cons (.succ (.succ (.succ (.succ (.succ (.zero)))))) (.cons (.succ (.succ (.succ (.succ (.succ (.succ (.zero))))))) (.cons (.succ (.succ (.succ (.succ (.succ (.succ (.succ (.zero)))))))) (.cons (.succ (.succ (.succ (.succ (.succ (.succ (.succ (.succ (.zero))))))))) (.cons (.succ (.succ (.succ (.succ (.succ (.succ (.succ (.succ (.succ (.zero)))))))))) (.cons (.succ (.succ (.succ (.succ (.succ (.succ (.succ (.succ (.succ (.succ (.zero))))))))))) .nil)))))))))) (.cons (.succ (.zero)) (.cons (.succ (.succ (.succ (.succ (.succ (.succ (.succ (.succ (.succ (.succ (.succ (.zero)))))))))))) (.cons (.succ (.succ (.succ (.succ (.succ (.succ (.succ (.succ (.succ (.succ (.succ (.succ (.zero))))))))))))) (.cons (.succ (.succ (.succ (.succ (.succ (.succ (.succ (.succ (.succ (.succ (.succ (.succ (.succ (.zero)))))))))))))) (.cons (.succ (.succ (.succ (.succ (.succ (.succ (.succ (.succ (.succ (.succ (.succ (.succ (.succ (.succ (.zero))))))))))))))) .nil))))) (.cons (.succ (.succ (.succ (.succ (.succ (.succ (.succ (.succ (.succ (.succ (.succ (.zero)))))))))))) (.cons (.succ (.zero)) (.cons (.succ (.succ (.succ (.succ (.succ (.succ (.succ (.succ (.succ (.succ (.succ (.succ (.zero))))))))))))) (.cons (.succ (.succ (.succ (.succ (.succ (.succ (.succ (.succ (.succ (.succ (.succ (.succ (.succ (.zero)))))))))))))) (.cons (.succ (.succ (.succ (.succ (.succ (.succ (.succ (.succ (.succ (.succ (.succ (.succ (.succ (.succ (.zero))))))))))))))) .nil))))) (fun _ _ _ _ _ h => h) ?_
          repeat (first | go_big_quiet_step ((fail)) | quiet_step ((fail)))
          refine wpQuiet_nil ?_
          constructor
          · go_wp2_with (at_builtin; (refine wpList_append_own _ rfl (.tmp 36) (.tmp 46) 59 rfl (w.heap.size + 2) 63 i1 _ 3 32 Tryd.underlying59 hi1 iz1 is1 ib1 rfl (by decide) _ ws.length (ws.flatMap (BWd.cells n)) rfl HOWN2.out ⟨wz.heap.size, 0, none⟩ 1 1 [.string (row.extract f i), .int .i64 n, .int .i64 (f + 1)] rfl rfl ?cells ?ones ?c63 ?cby ?cbase ?_))
            case cells =>
              intro j u hj
              match j, hj with
              | 0, hj => simp at hj; subst hj; simp [Addr.add, go_sem]
              | 1, hj => simp at hj; subst hj; simp [Addr.add, go_sem]
              | 2, hj => simp at hj; subst hj; simp [Addr.add, go_sem]
              | j + 3, hj => simp at hj
            case ones => simp [Value.oneCell']
            case c63 => unfold maxLen; omega
            case cby => omega
            case cbase => have := lt_heap HZ.out.lb; simp; omega
            intro v' w5 hown' hgrow _
            obtain ⟨A', c', rfl⟩ := own_slice hown'
            have hlb5 := heap_grown (heap_old (w := wz.drew) HZ.out.lb) hgrow (fun he => by have := (HOWN2.out.lt _ he).1; omega)
            have l1 := cell_heap (j := 1) hlb5 rfl
            have fl1 := frozen_heap (j := 1) hlb5
            have HGR := hide hgrow
            have HOW := hide hown'
            clear hgrow hown' hlb5
            go_wp2_with fail
            exact ⟨⟨-1, i + 1, _, _, [], rfl, by go_num, HZ.out.more HOW.out HGR.out hi hln HN.out⟩, by simp [intOf]; omega⟩
          · go_wp2_with (at_builtin; (refine wpList_append_own _ rfl (.tmp 36) (.tmp 46) 59 rfl (w.heap.size + 2) 63 i1 _ 3 32 Tryd.underlying59 hi1 iz1 is1 ib1 rfl (by decide) _ ws.length (ws.flatMap (BWd.cells n)) rfl HOWN2.out ⟨wz.heap.size, 0, none⟩ 1 1 [.string (row.extract f i), .int .i64 n, .int .i64 (f + 1)] rfl rfl ?cells ?ones ?c63 ?cby ?cbase ?_))
            case cells =>
              intro j u hj
              match j, hj with
              | 0, hj => simp at hj; subst hj; simp [Addr.add, go_sem]
              | 1, hj => simp at hj; subst hj; simp [Addr.add, go_sem]
              | 2, hj => simp at hj; subst hj; simp [Addr.add, go_sem]
              | j + 3, hj => simp at hj
            case ones => simp [Value.oneCell']
            case c63 => unfold maxLen; omega
            case cby => omega
            case cbase => have := lt_heap HZ.out.lb; simp; omega
            intro v' w5 hown' hgrow _
            obtain ⟨A', c', rfl⟩ := own_slice hown'
            have hlb5 := heap_grown (heap_old (w := wz.drew) HZ.out.lb) hgrow (fun he => by have := (HOWN2.out.lt _ he).1; omega)
            have l1 := cell_heap (j := 1) hlb5 rfl
            have fl1 := frozen_heap (j := 1) hlb5
            have HGR := hide hgrow
            have HOW := hide hown'
            clear hgrow hown' hlb5
            go_wp2_with fail
            exact ⟨⟨-1, i + 1, _, _, [], rfl, by go_num, HZ.out.more HOW.out HGR.out hi hln HN.out⟩, by simp [intOf]; omega⟩
end Go.Proofs.YtihmmmodimionaaDoor.Lx
