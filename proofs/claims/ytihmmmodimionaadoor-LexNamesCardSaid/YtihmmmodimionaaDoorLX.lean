import Derived.Test.YtihmmmodimionaaDoorLW
import Derived.Test.YtihmmmodimionaaDoorO
import Derived.Test.YtihmmmodimionaaDoorShelf
import Derived.Lib.SplitLaws
namespace Go.Proofs.YtihmmmodimionaaDoor.Lx
open Go.RowKit

theorem T_cons' (b : ByteArray) (h : 0 < b.size) : T b = b[0] :: (T b).drop 1 := by
  have := T_drop b 0 h
  rwa [List.drop_zero] at this
/-- what stands at the head of each round over the rows; R: the rows; RB: where they lie -/
structure OL (s : ByteArray) (R : List ByteArray) (RB : Nat) (w : World) (v : Value) (wr : World) (k : Nat) (bs : List BLn) : Prop where
  le : k ≤ R.length
  len : bs.length ≤ k
  ws : ∀ x ∈ bs, x.ws.length ≤ 65536
  own : wr.ownsRow w.heap.size 35 2 v bs.length (bs.flatMap BLn.cells)
  inner : ∀ x ∈ bs, WRow wr w.heap.size 37 x
  rb : wr.heap[RB]? = some (.cells (R.map Value.string).toArray 9 (0, 0))
  p : PosR wr w.heap.size 0 0
  bel : Below w.heap.size w wr
  eq : linesOf (rowsOf (T s) []) 1 = bs.map BLn.ln ++ linesOf ((R.map T).drop k) (k + 1)

theorem OL.skip {s : ByteArray} {R : List ByteArray} {RB : Nat} {w : World} {v : Value} {wr : World} {k : Nat} {bs : List BLn} (h : OL s R RB w v wr k bs) (hk : k < R.length) (he : linesOf (rowsOf (T s) []) 1 = bs.map BLn.ln ++ linesOf ((R.map T).drop (k + 1)) (k + 1 + 1)) : OL s R RB w v wr (k + 1) bs :=
  ⟨hk, Nat.le_succ_of_le h.len, h.ws, h.own, h.inner, h.rb, h.p, h.bel, by rw [he]; push_cast; rfl⟩
/-- what stands at the head of each round over a row's words; LB: the line; B: the heap when the line began -/
structure IL (R : List ByteArray) (RB LB : Nat) (n ind : Int) (row : ByteArray) (w : World) (v : Value) (bs : List BLn) (wr : World) (b : ByteArray) (wv : Value) (ws : List BWd) : Prop where
  lb : wr.heap[LB]? = some (.cells #[.int .i64 ind, wv] 35 (0, 0))
  lbge : w.heap.size ≤ LB
  le : b.size ≤ row.size
  len : ws.length + b.size ≤ 65536
  head : (T b).head? ≠ some 32
  wown : wr.ownsRow (LB + 1) 37 3 wv ws.length (ws.flatMap (BWd.cells n))
  own : wr.ownsRow w.heap.size 35 2 v bs.length (bs.flatMap BLn.cells)
  apart : ∀ g, v.ownBlock = some g → g < LB
  inner : ∀ x ∈ bs, WRow wr w.heap.size 37 x ∧ ∀ g, x.v.ownBlock = some g → g < LB
  rb : wr.heap[RB]? = some (.cells (R.map Value.string).toArray 9 (0, 0))
  p : PosR wr w.heap.size 0 0
  plt : w.heap.size < LB ∧ RB < LB
  bel : Below w.heap.size w wr
  eq : wds (T row) 0 [] = ws.map BWd.wd ++ wds (T b) (row.size - b.size : Nat) []

theorem IL.drewN {R : List ByteArray} {RB LB : Nat} {n ind : Int} {row : ByteArray} {w : World} {v : Value} {bs : List BLn} {wr : World} {b : ByteArray} {wv : Value} {ws : List BWd} (h : IL R RB LB n ind row w v bs wr b wv ws) (d : Nat) : IL R RB LB n ind row w v bs (wr.drewN d) b wv ws :=
  ⟨h.lb, h.lbge, h.le, h.len, h.head, h.wown, h.own, h.apart, h.inner, h.rb, h.p, h.plt, ⟨h.bel.os, h.bel.tape, h.bel.output, h.bel.size, h.bel.block⟩, h.eq⟩
/-- one word more: the line's row is grown, the line's cell turned, what is left trimmed -/
theorem IL.next {R : List ByteArray} {RB LB : Nat} {n ind : Int} {row : ByteArray} {w : World} {v : Value} {bs : List BLn} {wr : World} {b : ByteArray} {wv : Value} {ws : List BWd} (h : IL R RB LB n ind row w v bs wr b wv ws)
    {o : Obj} {v' : Value} {w4 : World} {wb b' : ByteArray} {c : Int} (hown : w4.ownsRow (LB + 1) 37 3 v' (ws.length + 1) (ws.flatMap (BWd.cells n) ++ BWd.cells n ⟨wb, c⟩)) (hg : (wr.alloc o).grownBy w4 wv.ownBlock)
    (hle : b'.size < b.size) (hhead : (T b').head? ≠ some 32) (heq : wds (T b) (row.size - b.size : Nat) [] = ⟨T wb, c⟩ :: wds (T b') (row.size - b'.size : Nat) []) : IL R RB LB n ind row w v bs (w4.setCell ⟨LB, 1, none⟩ v') b' v' (ws ++ [⟨wb, c⟩]) := by
  have hwo := h.wown.alloc o
  have hlt := fun g hg => hwo.lt g hg
  have hnb : ∀ g, g ≤ LB → wv.ownBlock ≠ some g := fun g hgl he => by have := hlt g he; omega
  have hbl : Below w.heap.size w w4 := (h.bel.alloc h.bel.size o).grown hg (Nat.le_trans h.bel.size (by simp)) (fun k hk => by have := (hlt k hk).1; have := h.lbge; omega)
  have hsz : (wr.alloc o).heap.size ≤ w4.heap.size := hg.size
  refine ⟨?_, h.lbge, by have := h.le; omega, by have := h.len; simp; omega, hhead, ?_, ?_, h.apart, fun x hx => ⟨?_, (h.inner x hx).2⟩, ?_, ?_, h.plt, hbl.setCell (p := ⟨LB, 1, none⟩) h.lbge _, ?_⟩
  · have h1 := heap_grown (heap_old h.lb) hg (hnb LB (Nat.le_refl _))
    exact heap_set h1
  · have h1 : w4.ownsRow (LB + 1) 37 3 v' (ws ++ [(⟨wb, c⟩ : BWd)]).length ((ws ++ [(⟨wb, c⟩ : BWd)]).flatMap (BWd.cells n)) := by simpa using hown
    exact ownsRow_setCell_other h1 (fun he => by have := (h1.lt LB he).1; omega) _
  · have h1 := own_kept (h.own.alloc o) hg (fun g hg1 hg2 => by have := (hlt g hg1).1; have := h.apart g hg2; omega)
    exact ownsRow_setCell_other h1 (fun he => by have := h.apart LB he; omega) _
  · have h1 := own_kept ((h.inner x hx).1.alloc o) hg (fun g hg1 hg2 => by have := (hlt g hg1).1; have := (h.inner x hx).2 g hg2; omega)
    exact ownsRow_setCell_other h1 (fun he => by have := (h.inner x hx).2 LB he; omega) _
  · have := h.plt
    exact heap_far (heap_grown (heap_old h.rb) hg (hnb RB (by omega))) (by show RB ≠ LB; omega)
  · have := h.plt
    exact heap_far (heap_grown (heap_old h.p) hg (hnb _ (by omega))) (by show w.heap.size ≠ LB; omega)
  · rw [h.eq, heq]; simp [BWd.wd]

/-- one line more -/
theorem IL.done {s : ByteArray} {R : List ByteArray} {RB LB k : Nat} {ind : Int} {row : ByteArray} {w : World} {v : Value} {bs : List BLn} {wr : World} {b : ByteArray} {wv : Value} {ws : List BWd} (h : IL R RB LB (k + 1) ind row w v bs wr b wv ws)
    {o : Obj} {v' : Value} {w4 : World} (hk : k < R.length) (hbk : bs.length ≤ k) (hws : ∀ x ∈ bs, x.ws.length ≤ 65536) (hwd : wds (T row) 0 [] = ws.map BWd.wd) (he : linesOf (rowsOf (T s) []) 1 = bs.map BLn.ln ++ ([⟨ind, k + 1, wds (T row) 0 []⟩] ++ linesOf ((R.map T).drop (k + 1)) (k + 1 + 1)))
    (hown : w4.ownsRow w.heap.size 35 2 v' (bs.length + 1) (bs.flatMap BLn.cells ++ [.int .i64 ind, wv])) (hg : (wr.alloc o).grownBy w4 v.ownBlock) : OL s R RB w v' w4 (k + 1) (bs ++ [⟨ind, k + 1, wv, ws⟩]) := by
  have ho := h.own.alloc o
  have hplt := h.plt
  have hlbge := h.lbge
  refine ⟨hk, by simp; exact hbk, fun x hx => ?_, by simpa [BLn.cells] using hown, fun x hx => ?_, ?_, ?_, (h.bel.alloc h.bel.size o).grown hg (Nat.le_trans h.bel.size (by simp)) (fun k' hk' => (ho.lt k' hk').1), ?_⟩
  · rcases List.mem_append.1 hx with hx | hx
    · exact hws x hx
    · have : x = ⟨ind, k + 1, wv, ws⟩ := by simpa using hx
      rw [this]
      have := h.len
      show ws.length ≤ 65536
      omega
  · rcases List.mem_append.1 hx with hx | hx
    · exact own_kept ((h.inner x hx).1.alloc o) hg (fun g hg1 => own_types ho ((h.inner x hx).1.alloc o) (by decide) g hg1)
    · have : x = ⟨ind, k + 1, wv, ws⟩ := by simpa using hx
      rw [this]
      exact own_kept (own_base (h.wown.alloc o) (by omega)) hg (fun g hg1 => own_types ho (h.wown.alloc o) (by decide) g hg1)
  · exact heap_grown (heap_old h.rb) hg (own_ne_row ho (heap_old h.rb) (by decide))
  · exact heap_grown (heap_old h.p) hg (own_ne_row ho (heap_old h.p) (by decide))
  · rw [he, hwd]; simp [BLn.ln]

set_option maxRecDepth 100000 in
set_option maxHeartbeats 4000000 in
theorem lines_ok (s : ByteArray) (w : World) (hs : (chk (T s)).2.2 = 0) (m : Int) (hm : w.cell? ⟨0, 0, none⟩ = some (.int .i64 m)) :
    Calls Tryd.prog 8 #[.string s] w (LinOut 35 37 (linRes (T s)).1 (linRes (T s)).2 w) := by
  have hlen := chk_len hs
  rw [T_len] at hlen
  have hc := fun o => check_any s (w.alloc o) (by unfold maxLen; omega)
  simp only [hs] at hc
  have HC := hide hc
  have h0 := lt_of_cell hm
  simp only at h0
  have HM := hide hm
  rw [linRes_ok hs]
  have HSP := hide (fun W hW => Tryd.strings_Split s ⟨#[10]⟩ m W (by omega) hW (by decide))
  have hsr := split_rows s.size s (Nat.le_refl _)
  have hsl : (Lib.splitB ⟨#[10]⟩ 0 (Lib.countB s ⟨#[10]⟩) s).length = Lib.countB s ⟨#[10]⟩ + 1 := Lib.splitB_all ⟨#[10]⟩ (by decide) 0 _ s rfl
  have hcn : Lib.countB s ⟨#[10]⟩ ≤ 65536 := by
    have := Lib.countB_mul_le ⟨#[10]⟩ (by decide) s.size s (Nat.le_refl _)
    have e : (⟨#[10]⟩ : ByteArray).size = 1 := rfl
    rw [e] at this; omega
  clear hc hs hm
  generalize Lib.splitB ⟨#[10]⟩ 0 (Lib.countB s ⟨#[10]⟩) s = R at *
  generalize Lib.countB s ⟨#[10]⟩ = N at *
  obtain ⟨hsr1, hsr2⟩ := hsr
  have HR2 := hide hsr2
  have HR1 := hide hsr1
  have HRL := hide hsl
  clear hsr1 hsr2 hsl
  go_enter Tryd.func8, Tryd.ntmps8
  go_wp2_with fail
  refine (HC.out _).mono ?_; rintro e w1 ⟨rfl, hb1⟩
  have hp1 : PosR w1 w.heap.size 0 0 := heapB hb1 (heap_new w _)
  have hbw : Below w.heap.size w w1 := below_wide (bel_one _ _) hb1
  have hm1 : (w1.alloc (Obj.cells #[.int .i64 (chk (T s)).1, .int .i64 (chk (T s)).2.1] 24)).cell? ⟨0, 0, none⟩ = some (.int .i64 m) := by
    rw [(hbw.alloc hbw.size _).cell (p := ⟨0, 0, none⟩) h0]; exact HM.out
  go_wp2_with fail
  refine (HSP.out _ hm1).mono ?_; rintro e w2 ⟨rfl, rfl⟩
  have HOL : Hid (OL s R (w1.heap.size + 1) w (.slice none 0 0) ((w1.alloc (Obj.cells #[.int .i64 (chk (T s)).1, .int .i64 (chk (T s)).2.1] 24)).alloc (.cells (R.map Value.string).toArray 9)) 0 []) := by
    refine ⟨Nat.zero_le _, Nat.le_refl _, fun x hx => (by cases hx), World.ownsRow_nil _ _ _ _, fun x hx => (by cases hx), heap_new2 _ _ _, heap_old (heap_old hp1), below_wide hbw (bel_two w1 _ _), ?_⟩
    rw [HR1.out]; rfl
  clear hp1 hbw hb1 hm1 HC HSP
  go_wp2_with fail
  generalize hw2 : (w1.alloc (Obj.cells #[.int .i64 (chk (T s)).1, .int .i64 (chk (T s)).2.1] 24)).alloc (.cells (R.map Value.string).toArray 9) = w2 at *
  clear hw2
  generalize w1.heap.size + 1 = RB at *
  go_loopw [7, 28] (fun v j wr => ∃ k bs, j = .int .i64 (k : Nat) ∧ OL s R RB w v wr k bs) (fun _ j _ => N + 1 - (intOf j).toNat)
  case atStart => exact ⟨0, [], rfl, HOL.out⟩
  case round =>
    clear HOL
    obtain ⟨k, bs, rfl, hol⟩ := hrel
    have hle := hol.le
    have hbl := hol.len
    rw [HRL.out] at hle
    have p0 := cell_heap (j := 0) hol.p rfl
    have p1 := cell_heap (j := 1) hol.p rfl
    have fp0 := frozen_heap (j := 0) hol.p
    have fp1 := frozen_heap (j := 1) hol.p
    have HT := hide hol
    clear hol
    by_cases hk : k < N + 1
    case neg =>
      have he : linesOf (rowsOf (T s) []) 1 = bs.map BLn.ln := by
        have := HT.out.eq
        rw [List.drop_eq_nil_of_le (by rw [List.length_map, HRL.out]; omega)] at this
        simpa [linesOf] using this
      have HE := hide he
      clear he
      go_wp2_with fail
      refine bodyPost_ret (v := .tuple #[u7, .agg #[.int .i64 0, .int .i64 0], .int .i64 0]) (by simp [results, Tryd.results8, go_sem, p0, p1]) rfl ?_
      have hpos := own_ne_row HT.out.own HT.out.p (by decide)
      have hb2 := ((HT.out.bel.setCell (p := ⟨w.heap.size, 0, none⟩) (Nat.le_refl _) (.int .i64 0)).setCell (p := ⟨w.heap.size, 1, none⟩) (Nat.le_refl _) (.int .i64 0))
      refine ⟨_, bs, HE.out.symm, rfl, ownsRow_setCell_other (ownsRow_setCell_other HT.out.own hpos _) hpos _, fun x hx => ?_, hb2, by omega, HT.out.ws⟩
      have hposx := own_ne_row (HT.out.inner x hx) HT.out.p (by decide)
      exact ownsRow_setCell_other (ownsRow_setCell_other (HT.out.inner x hx) hposx _) hposx _
    have hkr : k < R.length := by rw [HRL.out]; exact hk
    have hrow := cell_heap (j := k) (u := .string R[k]) HT.out.rb (by simp [hkr])
    have hsz := HR2.out R[k] (List.getElem_mem hkr)
    have heq := HT.out.eq
    rw [List.drop_eq_getElem_cons (by rw [List.length_map]; exact hkr), List.getElem_map, linesOf] at heq
    generalize R[k] = row at *
    have HTR := hide (fun W => Tryd.strings_TrimLeft_one row 32 (by decide) W)
    obtain ⟨b, hb⟩ : ∃ b : ByteArray, b = ⟨(Lib.trimLeftB row.data.toList 32).toArray⟩ := ⟨_, rfl⟩
    rw [← hb] at HTR
    have hTb : T b = trim (T row) := by rw [hb]; rfl
    have hble : b.size ≤ row.size := by rw [size_T, size_T row, hTb]; exact trim_le _
    have hhead : (T b).head? ≠ some 32 := by rw [hTb]; exact trim_head _
    have hwt := wds_trim (T row) 0
    rw [← hTb, Int.zero_add, T_len, T_len] at hwt
    clear hb hTb
    by_cases hz : 0 < b.size
    case neg =>
      have hbe : T b = [] := List.eq_nil_of_length_eq_zero (by rw [T_len]; omega)
      have hem : b.toList.isEmpty = true := by rw [ByteArray.toList_eq, show b.data.toList = T b from rfl, hbe]; rfl
      rw [hbe] at hwt
      rw [lineOf_nil hwt, List.nil_append] at heq
      have HE := hide heq
      clear heq hwt hbe hhead
      go_wp2_with fail
      refine (HTR.out _).mono ?_; rintro e w3 ⟨rfl, rfl⟩
      go_wp2_with fail
      exact ⟨⟨k + 1, bs, by go_num, HT.out.skip hkr HE.out⟩, by simp [intOf]; omega⟩
    have hem : b.toList.isEmpty = false := by rw [ByteArray.toList_eq, show b.data.toList = T b from rfl, T_cons' b hz]; rfl
    have hcut := wds_cut (s := T b) (by rw [T_cons' b hz]; simp) hhead ((row.size - b.size : Nat) : Int)
    have hfst : (T b).headD 0 = b[0] := by rw [T_cons' b hz]; rfl
    by_cases hx : (b[0].toNat : Int) = 33
    · have hx' := beq_it hx
      rw [lineOf_bang (hwt.trans hcut.2.2.2) (by rw [hcut.2.1, hfst]; exact (u8_eq b[0] 33 (by omega)).2 (by omega)), List.nil_append] at heq
      have HE := hide heq
      clear heq hwt hcut hfst hhead
      go_wp2_with fail
      refine (HTR.out _).mono ?_; rintro e w3 ⟨rfl, rfl⟩
      go_wp2_with fail
      exact ⟨⟨k + 1, bs, by go_num, HT.out.skip hkr HE.out⟩, by simp [intOf]; omega⟩
    have hx' := beq_if hx
    have hln := lineOf_is (n := (k : Int) + 1) (hwt.trans hcut.2.2.2) (by rw [hcut.2.1, hfst]; intro e; exact hx (by have := (u8_eq b[0] 33 (by omega)).1 e; omega))
    rw [← hcut.2.2.2, ← hwt] at hln
    have hind : ((row.size - b.size : Nat) : Int) + 1 - 1 = (row.size : Int) - b.size := by omega
    simp only [hind] at hln
    rw [hln] at heq
    have HE := hide heq
    clear heq hcut hfst hln hind
    go_wp2_with fail
    refine (HTR.out _).mono ?_; rintro e w3 ⟨rfl, rfl⟩
    go_wp2_with fail
    generalize (row.size : Int) - b.size = ind at *
    have HIL : Hid (IL R RB w3.heap.size (k + 1) ind row w u7 bs (w3.alloc (Obj.cells #[.int .i64 ind, .slice none 0 0] 35)) b (.slice none 0 0) []) := by
      have hplt := lt_heap HT.out.p
      have hrlt := lt_heap HT.out.rb
      refine ⟨heap_new _ _, HT.out.bel.size, hble, by simp; omega, hhead, World.ownsRow_nil _ _ _ _, HT.out.own.alloc _, fun g hg => (HT.out.own.lt g hg).2, fun x hx => ⟨(HT.out.inner x hx).alloc _, fun g hg => ((HT.out.inner x hx).lt g hg).2⟩, heap_old HT.out.rb, heap_old HT.out.p, ⟨hplt, hrlt⟩, HT.out.bel.alloc HT.out.bel.size _, hwt⟩
    clear hwt hhead hem hx hx' HTR hble
    have hwl : Hid (bs.length ≤ 65536 ∧ ∀ x ∈ bs, x.ws.length ≤ 65536) := ⟨by omega, HT.out.ws⟩
    have hws3 := HT.out.bel.size
    clear p0 p1 fp0 fp1 hrow HT
    generalize hLB : w3.heap.size = LB at *
    clear hLB
    generalize (w3.alloc (Obj.cells #[.int .i64 ind, .slice none 0 0] 35)) = w4 at *
    clear w3
    go_loopw [10] (fun bv wr => ∃ b wv ws, bv = .string b ∧ IL R RB LB (k + 1) ind row w u7 bs wr b wv ws) (fun bv _ => match bv with | .string b => b.size | _ => 0)
    case atStart => exact ⟨b, _, [], rfl, HIL.out⟩
    case round =>
      clear HIL
      obtain ⟨b, wv, ws, rfl, hil⟩ := hrel
      have hlen1 := hil.len
      have hlen2 := hil.le
      have l0 := cell_heap (j := 0) hil.lb rfl
      have l1 := cell_heap (j := 1) hil.lb rfl
      have HL := hide hil
      clear hil
      by_cases hzb : 0 < b.size
      case neg =>
        have hbe : T b = [] := List.eq_nil_of_length_eq_zero (by rw [T_len]; omega)
        have hem : b.toList.isEmpty = true := by rw [ByteArray.toList_eq, show b.data.toList = T b from rfl, hbe]; rfl
        have hwd : wds (T row) 0 [] = ws.map BWd.wd := by
          have := HL.out.eq
          rw [hbe] at this
          simpa [wds, endW] using this
        have HW := hide hwd
        clear hwd hbe
        have hv1 := own_one HL.out.wown
        obtain ⟨i1, hi1, iz1, is1, ib1⟩ := info_parts infoLine
        have HOWN2 := hide (HL.out.own.alloc (Obj.cells #[.int .i64 ind, wv] 35))
        go_wp2_with (at_builtin; (refine wpList_append_own _ rfl (.tmp 75) (.tmp 77) 22 rfl w.heap.size 35 i1 _ 2 32 Tryd.underlying22 hi1 iz1 is1 ib1 rfl (by decide) _ bs.length (bs.flatMap BLn.cells) rfl HOWN2.out ⟨wr.heap.size, 0, none⟩ 1 1 [.int .i64 ind, wv] rfl rfl ?cells ?ones ?c63 ?cby ?cbase ?_))
        case cells =>
          intro j u hj
          match j, hj with
          | 0, hj => simp at hj; subst hj; simp [Addr.add, go_sem]
          | 1, hj => simp at hj; subst hj; simp [Addr.add, go_sem]
          | j + 2, hj => simp at hj
        case ones =>
          intro u hu
          simp only [List.mem_cons, List.not_mem_nil, or_false] at hu
          rcases hu with rfl | rfl
          · rfl
          · exact hv1
        case c63 => unfold maxLen; omega
        case cby => omega
        case cbase => have := HL.out.bel.size; simp; omega
        intro v' w5 hown' hgrow _
        have HGR := hide hgrow
        have HOW := hide hown'
        clear hgrow hown'
        go_wp2_with fail
        have hw1 := hwl.out.2
        exact ⟨⟨k + 1, _, by go_num, HL.out.done hkr hbl hw1 HW.out HE.out HOW.out HGR.out⟩, by simp [intOf]; omega⟩
      have hem : b.toList.isEmpty = false := by rw [ByteArray.toList_eq, show b.data.toList = T b from rfl, T_cons' b hzb]; rfl
      have hcut := wds_cut (s := T b) (by rw [T_cons' b hzb]; simp) HL.out.head ((row.size - b.size : Nat) : Int)
      have hmb : wr.cell? ⟨0, 0, none⟩ = some (.int .i64 m) := by rw [HL.out.bel.cell (p := ⟨0, 0, none⟩) h0]; exact HM.out
      have hct := Tryd.strings_Cut b ⟨#[32]⟩ m wr (by omega) hmb
      obtain ⟨wb, hwb⟩ : ∃ x : ByteArray, x = ⟨(Lib.cut b.data.toList (⟨#[32]⟩ : ByteArray).data.toList).1.toArray⟩ := ⟨_, rfl⟩
      obtain ⟨hb, hhb⟩ : ∃ x : ByteArray, x = ⟨(Lib.cut b.data.toList (⟨#[32]⟩ : ByteArray).data.toList).2.1.toArray⟩ := ⟨_, rfl⟩
      rw [← hwb, ← hhb] at hct
      have hTw : (Lib.cut (T b) [32]).1 = T wb := by rw [hwb]; rfl
      have hTh : (Lib.cut (T b) [32]).2.1 = T hb := by rw [hhb]; rfl
      rw [hTw, hTh] at hcut
      clear hwb hhb hTw hTh
      obtain ⟨hc1, _, hc3, hc4⟩ := hcut
      rw [T_len, T_len, T_len] at hc3
      have hwp : 1 ≤ wb.size := by rw [size_T]; exact List.length_pos_iff.2 hc1
      have htr := fun W => Tryd.strings_TrimLeft_one hb 32 (by decide) W
      obtain ⟨b', hb'⟩ : ∃ x : ByteArray, x = ⟨(Lib.trimLeftB hb.data.toList 32).toArray⟩ := ⟨_, rfl⟩
      rw [← hb'] at htr
      have hTb : T b' = trim (T hb) := by rw [hb']; rfl
      have hble : b'.size ≤ hb.size := by rw [size_T, size_T hb, hTb]; exact trim_le _
      have hhead : (T b').head? ≠ some 32 := by rw [hTb]; exact trim_head _
      rw [wds_trim (T hb), ← hTb, T_len, T_len, T_len] at hc4
      have hpos : ((row.size - b.size : Nat) : Int) + ((b.size - hb.size : Nat) : Int) + ((hb.size - b'.size : Nat) : Int) = ((row.size - b'.size : Nat) : Int) := by omega
      have hcol : ((row.size - b.size : Nat) : Int) + 1 = (row.size : Int) - b.size + 1 := by omega
      rw [hpos, hcol] at hc4
      clear hb' hTb hpos hcol hc1
      have HC4 := hide hc4
      have HCT := hide hct
      have HTR := hide htr
      have HHEAD := hide hhead
      clear hc4 hct htr hhead hmb
      go_wp2_with fail
      refine HCT.out.mono ?_; rintro e w5 ⟨rfl, nd, rfl⟩
      have HL := hide (HL.out.drewN nd)
      generalize wr.drewN nd = wq at *
      obtain ⟨i1, hi1, iz1, is1, ib1⟩ := info_parts infoWord
      clear l0 l1
      have l0 := fun o => cell_heap (j := 0) (heap_old (p := o) HL.out.lb) rfl
      have l1 := cell_heap (j := 1) HL.out.lb rfl
      have HOWN2 := hide (HL.out.wown.alloc (Obj.cells #[.string wb, .int .i64 (k + 1), .int .i64 (row.size - b.size + 1)] 37))
      go_wp2_with (at_builtin; (refine wpList_append_own _ rfl (.tmp 63) (.tmp 70) 33 rfl (LB + 1) 37 i1 _ 3 32 Tryd.underlying33 hi1 iz1 is1 ib1 rfl (by decide) _ ws.length (ws.flatMap (BWd.cells (k + 1))) rfl HOWN2.out ⟨wq.heap.size, 0, none⟩ 1 1 [.string wb, .int .i64 (k + 1), .int .i64 (row.size - b.size + 1)] rfl rfl ?cells ?ones ?c63 ?cby ?cbase ?_))
      case cells =>
        intro j u hj
        match j, hj with
        | 0, hj => simp at hj; subst hj; simp [Addr.add, go_sem]
        | 1, hj => simp at hj; subst hj; simp [Addr.add, go_sem]
        | 2, hj => simp at hj; subst hj; simp [Addr.add, go_sem]
        | j + 3, hj => simp at hj
      case ones => simp [Value.oneCell']
      case c63 => unfold maxLen; omega
      case cby => omega
      case cbase => have := lt_heap HL.out.lb; simp; omega
      intro v' w5 hown' hgrow _
      obtain ⟨A', c', rfl⟩ := own_slice hown'
      have hlb5 := heap_grown (heap_old HL.out.lb) hgrow (fun he => by have := (HOWN2.out.lt LB he).1; omega)
      have l0 := cell_heap (j := 0) hlb5 rfl
      have l1 := cell_heap (j := 1) hlb5 rfl
      have fl1 := frozen_heap (j := 1) hlb5
      have HGR := hide hgrow
      have HOW := hide hown'
      clear hgrow hown' hlb5
      go_wp2_with fail
      refine (HTR.out _).mono ?_; rintro e w6 ⟨rfl, rfl⟩
      go_wp2_with fail
      go_roundw
      case rel => exact ⟨b', _, ws ++ [⟨wb, row.size - b.size + 1⟩], rfl, HL.out.next HOW.out HGR.out (by omega) HHEAD.out HC4.out⟩
      case measure => show b'.size < b.size; omega

set_option maxHeartbeats 1000000 in
theorem lines_no (s : ByteArray) (w : World) (hs : ¬ (chk (T s)).2.2 = 0) (hlen : s.size ≤ maxLen) :
    Calls Tryd.prog 8 #[.string s] w (LinOut 35 37 (linRes (T s)).1 (linRes (T s)).2 w) := by
  have HC := hide (fun o => check_any s (w.alloc o) hlen)
  have hne := beq_if hs
  rw [linRes_no hs]
  clear hs
  generalize hp : (chk (T s)).1 = p at *
  generalize hq : (chk (T s)).2.1 = q at *
  generalize hr : (chk (T s)).2.2 = r at *
  have HP := hide (show chk (T s) = (p, q, r) by rw [← hp, ← hq, ← hr])
  clear hp hq hr
  go_enter Tryd.func8, Tryd.ntmps8
  go_wp2_with fail
  refine (HC.out _).mono ?_; rintro e w1 ⟨rfl, hb1⟩
  have hp1 : PosR w1 w.heap.size 0 0 := heapB hb1 (heap_new w _)
  have hbw : Below w.heap.size w w1 := below_wide (bel_one _ _) hb1
  have q0 := fun o => cell_heap (j := 0) (heap_old (p := o) hp1) rfl
  have q1 := fun o => cell_heap (j := 1) (heap_old (p := o) hp1) rfl
  have f0 := fun o => frozen_heap (j := 0) (heap_old (p := o) hp1)
  have f1 := fun o => frozen_heap (j := 1) (heap_old (p := o) hp1)
  have HB := hide hbw
  clear hp1 hbw hb1
  go_wp2_with fail
  go_region
  go_wp2_with fail
  refine bodyPost_ret (v := .tuple #[.slice none 0 0, .agg #[.int .i64 p, .int .i64 q], .int .i64 r]) (by simp [results, Tryd.results8, go_sem, q0, q1]) rfl ?_
  rw [HP.out]
  exact ⟨_, [], rfl, rfl, World.ownsRow_nil _ _ _ _, fun x hx => (by cases hx), (((HB.out.alloc HB.out.size _).setCell (p := ⟨w.heap.size, 0, none⟩) (Nat.le_refl _) _).setCell (p := ⟨w.heap.size, 1, none⟩) (Nat.le_refl _) _).drew, by simp, fun x hx => (by cases hx)⟩

theorem lines_any (s : ByteArray) (w : World) (hlen : s.size ≤ maxLen) (m : Int) (hm : w.cell? ⟨0, 0, none⟩ = some (.int .i64 m)) :
    Calls Tryd.prog 8 #[.string s] w (LinOut 35 37 (linRes (T s)).1 (linRes (T s)).2 w) := by
  by_cases hs : (chk (T s)).2.2 = 0
  · exact lines_ok s w hs m hm
  · exact lines_no s w hs hlen
end Go.Proofs.YtihmmmodimionaaDoor.Lx
