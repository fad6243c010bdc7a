/- What the claim leans on, part 11 of 14: VE L M Cl. -/
import Derived.Deep.CutBlock
import Derived.Deep.DeepCutAuto
import Derived.Test.YtihmmmodimionaaRe01
import Derived.Test.YtihmmmodimionaaRe02
import Derived.Test.YtihmmmodimionaaRe03
import Derived.Test.YtihmmmodimionaaRe04
import Derived.Test.YtihmmmodimionaaRe05
import Derived.Test.YtihmmmodimionaaRe06
import Derived.Test.YtihmmmodimionaaRe07
import Derived.Test.YtihmmmodimionaaRe08
import Derived.Test.YtihmmmodimionaaRe09
import Derived.Test.YtihmmmodimionaaRe10
/- The document's reading: a statement (printed by gen_ve.py). -/
namespace Go.Proofs.Ytihmmmodimionaa.Tr
open Go.RowKit Go.Proofs.Ytihmmmodimionaa Go.Proofs.Ytihmmmodimionaa.Lx

def OneOut (w0 w : World) (p : Nat) (A : Option Addr) (cap : Nat) (ts : List BTok) (r : RR) (e' : Ending) (w' : World) : Prop :=
  e' = .returned (.tuple #[]) ∧ Below p w w' ∧ match r with
  | .ok rows br rest => ∃ i vr vb xs B, rest = ts.drop i ∧ rows.length ≤ i ∧ br.length ≤ 32 ∧ RdS w0 w' p A cap ts i vr vb rows br xs B 0 0 0
  | .err e l c => e ≠ 0 ∧ ∃ i vr vb, StX w' p A cap ts i vr vb e l c
theorem OX.start {w0 w x : World} {p : Nat} {A : Option Addr} {cap : Nat} {ts : List BTok} {i : Nat} {vr vb : Value} {rows : List RowD} {br : List Pl} {xs : List Value} {B : Nat → Prop} {d f1 f2 : Int} (h : RdS w0 w p A cap ts i vr vb rows br xs B 0 0 0) (hb : Below w.heap.size w x) (h1 : x.heap[w.heap.size]? = some (RowC d (.slice none 0 0) (.slice none 0 0) false)) (h2 : x.heap[w.heap.size + 1]? = some (PosC f1 f2)) :
    OX w0 w x p A cap ts i vr vb rows br xs B d false f1 f2 [] none 0 none 0 :=
  ⟨h.below hb, h1, h2, ⟨rfl, .inl ⟨rfl, rfl⟩⟩, ⟨rfl, .inl ⟨rfl, rfl⟩⟩, only_of_below hb, lt_heap h.st.h, fun g e => (h.ro.own.lt g e).2, fun g e => (h.ro.hB g e).2.1, fun g e => (h.br.lt g e).2⟩
theorem oneR_end {rows : List RowD} {br : List Pl} {first : Pl} {toks left : List BTok} (h : behindT toks = left) (k5 : kindT left ≠ 5) : oneR rows br first toks = endR rows br first (wordsT toks) [] left := by
  unfold oneR
  rw [h]
  cases left with
  | nil => rfl
  | cons u us => simp only [kindT] at k5; simp [k5]
theorem oneR_br {rows : List RowD} {br : List Pl} {first : Pl} {toks : List BTok} {u : BTok} {bs : List BTok} (h : behindT toks = u :: bs) (k5 : u.k = 5) : oneR rows br first toks = (match behindT bs with
      | [] => .err 71 first.1 first.2
      | q :: us => if q.k = 6 ∧ (wordsT bs).length ≠ 0 then endR rows br first (wordsT toks) (leafR br.length (wordsT toks) (wordsT bs)) us else .err 130 q.l q.c) := by
  unfold oneR
  rw [h]
  simp only [if_pos k5]
  cases behindT bs <;> rfl
theorem words_end {left : List BTok} (h : kindT left ≠ 1) : wordsT left = [] ∧ behindT left = left := by
  cases left with
  | nil => exact ⟨rfl, rfl⟩
  | cons u us => simp only [kindT] at h; exact ⟨by rw [wordsT, if_neg h], by rw [behindT, if_neg h]⟩
section
variable (w0 : World) (p : Nat) (A : Option Addr) (cap : Nat) (ts : List BTok) (i : Nat) (vr vb : Value) (rows : List RowD) (br : List Pl) (xs : List Value) (B : Nat → Prop) (w : World)
set_option maxHeartbeats 8000000 in
set_option maxRecDepth 100000 in
theorem one_any (h : RdS w0 w p A cap ts i vr vb rows br xs B 0 0 0) (t : BTok) (rest : List BTok) (hd : ts.drop i = t :: rest) (hk : t.k = 1) (hri : rows.length ≤ i) (hbl : br.length ≤ 32) (hkz : ∀ t ∈ ts, t.k ≠ 0) (h0w : w0.heap.size ≤ w.heap.size) :
    Calls Try.prog 44 #[.pointer (some ⟨p, 0, none⟩)] w (OneOut w0 w p A cap ts (oneR rows br t.pos (t :: rest))) := by
  have hpw := lt_heap h.st.h
  have HPW := hide hpw
  have hi : i < ts.length := by
    rcases Nat.lt_or_ge i ts.length with h1 | h1
    · exact h1
    · rw [List.drop_eq_nil_of_le h1] at hd; cases hd
  have hti : ts[i] = t := by rw [List.drop_eq_getElem_cons hi] at hd; injection hd
  obtain ⟨ri, rz0, rz, rss, rb⟩ := info_parts infoR
  obtain ⟨qi, qz0, qz, qs, qb⟩ := info_parts infoP
  obtain ⟨Ab, cb, rfl⟩ := own_slice h.br
  obtain ⟨Ar, cr, rfl⟩ := own_slice h.ro.own
  have p0 := cell_heap (j := 0) h.st.h rfl
  have p1 := cell_heap (j := 1) h.st.h rfl
  have p3 := cell_heap (j := 3) h.st.h rfl
  obtain ⟨tb, tq, rfl, -, -, t2, t3⟩ := h.st.tok hi
  rw [hti] at t2 t3
  have HH := hide h
  have HD := hide hd
  have HK := hide hk
  have HZ := hide hkz
  have hnl := h.st.nl
  clear h hd hk hti hkz
  go_enter Try.func44, Try.ntmps44
  go_wp2_with fail
  have HS1 := hide (show (w.alloc (RowC br.length (.slice none 0 0) (.slice none 0 0) false)).heap.size = w.heap.size + 1 from by simp)
  have HR1 := hide (heap_new w (RowC br.length (.slice none 0 0) (.slice none 0 0) false))
  have HB1 := hide (bel_one w (RowC br.length (.slice none 0 0) (.slice none 0 0) false))
  generalize w.alloc (RowC br.length (.slice none 0 0) (.slice none 0 0) false) = w1 at *
  have k0 := fun x => cellB (pin_in (Below.refl w1.heap.size w1).drew x) (cellB HB1.out p0)
  have k1 := fun x => cellB (pin_in (Below.refl w1.heap.size w1).drew x) (cellB HB1.out p1)
  have k2 := fun x => cellB (pin_in (Below.refl w1.heap.size w1).drew x) (cellB HB1.out t2)
  have k3 := fun x => cellB (pin_in (Below.refl w1.heap.size w1).drew x) (cellB HB1.out t3)
  have d2 : ((i : Int) < (ts.length : Int)) := by omega
  refine wp_region_tree ((Below w1.heap.size w1)) (fun k => ([12] : List Nat).contains k) (.take [0, 1, 2, 3, 4, 5, 6, 7, 8, 9, 10] (.step 11 (.step 12 .done))) (by kernel_rfl) (by kernel_rfl) (by kernel_rfl) (by kernel_rfl) (.take (.cons (.zero) (.cons (.succ (.zero)) (.cons (.succ (.succ (.zero))) (.cons (.succ (.succ (.succ (.zero)))) (.cons (.succ (.succ (.succ (.succ (.zero))))) (.cons (.succ (.succ (.succ (.succ (.succ (.zero)))))) (.cons (.succ (.succ (.succ (.succ (.succ (.succ (.zero))))))) (.cons (.succ (.succ (.succ (.succ (.succ (.succ (.succ (.zero)))))))) (.cons (.succ (.succ (.succ (.succ (.succ (.succ (.succ (.succ (.zero))))))))) (.cons (.succ (.succ (.succ (.succ (.succ (.succ (.succ (.succ (.succ (.zero)))))))))) (.cons (.succ (.succ (.succ (.succ (.succ (.succ (.succ (.succ (.succ (.succ (.zero))))))))))) .nil))))))))))) (.step (.succ (.succ (.succ (.succ (.succ (.succ (.succ (.succ (.succ (.succ (.succ (.zero)))))))))))) rfl (.step (.succ (.succ (.succ (.succ (.succ (.succ (.succ (.succ (.succ (.succ (.succ (.succ (.zero))))))))))))) rfl .done))) ?hQ ?hS ?_
  case hQ => exact fun _ _ _ _ _ h => h
  case hS => exact (Below.refl _ _).drew
  refine wpT_take ?_
  repeat (first | go_big_quiet_step ((fail)) | quiet_step ((fail)))
  refine wpQuiet_nil ?_
  have HB := hide (show Below w1.heap.size w1 w1.drew from (Below.refl _ _).drew)
  have HX0 := hide (show w1.drew.heap.size = w.heap.size + 1 from HS1.out)
  generalize w1.drew = x0 at *
  refine wpT_step rfl ?_
  intro K1 hK1
  go_wp2_with fail
  have HBq := hide (HB.out.alloc HB.out.size (PosC 0 0))
  have HN := hide (show (x0.alloc (PosC 0 0)).heap[w.heap.size + 1]? = some (PosC 0 0) from by have := heap_new x0 (PosC 0 0); rwa [HX0.out] at this)
  refine hK1.out _ _ (fun _ => pin_mem HBq.out) ?_
  clear HB hK1; have HB := HBq; clear HBq
  have hx0 := HX0.out
  rw [hx0]
  clear hx0 HX0
  generalize x0.alloc (PosC 0 0) = x1 at *
  have n0 := cell_heap (j := 0) HN.out rfl
  have n1 := cell_heap (j := 1) HN.out rfl
  have m0 := frozen_heap (j := 0) HN.out
  have m1 := frozen_heap (j := 1) HN.out
  refine wpT_step rfl ?_
  intro K1 hK1
  go_wp2_with fail
  refine hK1.out _ _ (fun h => by cases h) ?_
  clear hK1
  refine wpT_done ?_
  clear n0 n1 m0 m1
  have hbx : Below w.heap.size w ((x1.setCell ⟨w.heap.size + 1, 0, none⟩ (.int .i64 t.l)).setCell ⟨w.heap.size + 1, 1, none⟩ (.int .i64 t.c)) := ((below_lo HB1.out HB.out (by have := HS1.out; omega)).setCell (p := ⟨w.heap.size + 1, 0, none⟩) (Nat.le_succ _) _).setCell (p := ⟨w.heap.size + 1, 1, none⟩) (Nat.le_succ _) _
  have hrx := heap_far (p := ⟨w.heap.size + 1, 1, none⟩) (u := .int .i64 t.c) (heap_far (p := ⟨w.heap.size + 1, 0, none⟩) (u := .int .i64 t.l) (heapB HB.out HR1.out) (Nat.ne_of_lt (Nat.lt_succ_self _))) (Nat.ne_of_lt (Nat.lt_succ_self _))
  have HO := hide (OX.start (d := br.length) (f1 := t.l) (f2 := t.c) HH.out hbx hrx (heap_set (j := 1) (u := .int .i64 t.c) (heap_set (j := 0) (u := .int .i64 t.l) HN.out)))
  clear hbx hrx k0 k1 k2 k3 p0 p1 p3 t2 t3 d2 HN HB HB1 HR1 HS1
  generalize (x1.setCell ⟨w.heap.size + 1, 0, none⟩ (.int .i64 t.l)).setCell ⟨w.heap.size + 1, 1, none⟩ (.int .i64 t.c) = x2 at *
  go_wp2_with fail
  go_loopg [] (t :: rest).length (fun g wr => ∃ (k : Nat) (done left : List BTok) (Aw : Option Addr) (cw : Nat) (Ap : Option Addr) (cp : Nat), OX w0 w wr p (some ⟨tb, tq, none⟩) cap ts k (.slice Ar rows.length cr) (.slice Ab br.length cb) rows br xs B br.length false t.l t.c done Aw cw Ap cp ∧ ts.drop k = left ∧ left.length ≤ g ∧ i + done.length = k ∧ wordsT (t :: rest) = done ++ wordsT left ∧ behindT (t :: rest) = behindT left)
  case atStart => exact ⟨i, [], t :: rest, _, _, _, _, HO.out, HD.out, Nat.le_refl _, rfl, rfl, rfl⟩
  case round =>
    clear HO
    obtain ⟨k, done, left, Aw, cw, Ap, cp, hX, hL, hg, hkl, e1, e2⟩ := hrel
    have HX := hide hX
    have HL := hide hL
    have HE := hide (And.intro e1 e2)
    have HKD := hide (rkind_any p (some ⟨tb, tq, none⟩) cap ts k (.slice Ar rows.length cr) (.slice Ab br.length cb) 0 0 0 wr hX.rd.st)
    rw [hL] at HKD
    clear hX hL e1 e2
    by_cases hk : kindT left = 1
    · obtain ⟨u, left', rfl⟩ : ∃ u r, left = u :: r := by
        cases left with
        | nil => simp [kindT] at hk
        | cons u r => exact ⟨u, r, rfl⟩
      have hk1 : u.k = 1 := hk
      rw [hk] at HKD
      have HK := hide hk1
      have HKL := hide hkl
      clear hk hk1 hkl
      go_wp2_with fail
      refine HKD.out.mono ?_
      rintro e w2 ⟨rfl, hb2⟩
      have HX2 := hide (HX.out.below hb2)
      clear HKD hb2 HX
      have n0 := cell_heap (j := 0) HX2.out.rb rfl
      have n1 := cell_heap (j := 1) HX2.out.rb rfl
      have n2 := cell_heap (j := 2) HX2.out.rb rfl
      have n3 := cell_heap (j := 3) HX2.out.rb rfl
      have hkt : k < ts.length := by
        rcases Nat.lt_or_ge k ts.length with h1 | h1
        · exact h1
        · have := HL.out
          rw [List.drop_eq_nil_of_le h1] at this; cases this
      have htk : ts[k] = u := by have := HL.out; rw [List.drop_eq_getElem_cons hkt] at this; injection this
      have hL' : ts.drop (k + 1) = left' := by have := HL.out; rw [List.drop_eq_getElem_cons hkt] at this; injection this
      have hdn : done.length ≤ 65536 := by have := HKL.out; omega
      have hw := word_any p (some ⟨tb, tq, none⟩) cap ts k (.slice Ar rows.length cr) (.slice Ab br.length cb) 0 0 0 br.length (done.map BTok.b) (done.map BTok.pos) Aw cw Ap cp false w2 HX2.out.rd.st hkt (by rw [List.length_map]; exact own_src HX2.out.ow) (by rw [List.length_map]; exact own_src HX2.out.ops) (by rw [List.length_map]; exact hdn) (by rw [List.length_map]; exact hdn)
      rw [htk, List.length_map, List.length_map] at hw
      have HW := hide hw
      have HL2 := hide hL'
      clear hw htk hkt hL' HL
      go_wp2_with fail
      refine HW.out.mono ?_
      intro e w3 hw3
      obtain ⟨hx3, Bw, dw, Bp, dp, rfl, -, -, hx4⟩ := HX2.out.word hw3
      have HX4 := hide hx4
      have r0 := cell_heap (j := 0) hx3.rb rfl
      have r1 := cell_heap (j := 1) hx3.rb rfl
      have r2 := cell_heap (j := 2) hx3.rb rfl
      have r3 := cell_heap (j := 3) hx3.rb rfl
      have y0 := frozen_heap (j := 0) hx3.rb
      have y1 := frozen_heap (j := 1) hx3.rb
      have y2 := frozen_heap (j := 2) hx3.rb
      have y3 := frozen_heap (j := 3) hx3.rb
      clear hx3 hx4 hw3 HX2 HW n0 n1 n2 n3
      go_wp2_with fail
      go_roundg left'.length
      case rel => exact ⟨k + 1, done ++ [u], left', _, _, _, _, (by have q := HX4.out; simp only [List.length_append, List.length_cons, List.length_nil, Nat.zero_add] at q; exact q), HL2.out, Nat.le_refl _, by have := HKL.out; simp; omega, by rw [HE.out.1, wordsT, if_pos HK.out]; simp, by rw [HE.out.2, behindT, if_pos HK.out]⟩
      case measure => simp at hg; omega
    · obtain ⟨ew, eb⟩ := words_end hk
      have hN := HE.out.1
      have hE2 := HE.out.2
      rw [ew, List.append_nil] at hN
      rw [eb] at hE2
      have HKL := hide hkl
      have hkb : (kindT left == 1) = false := by simpa using hk
      go_wp2_with fail
      refine HKD.out.mono ?_
      rintro e w2 ⟨rfl, hb2⟩
      have HXq := hide (HX.out.below hb2)
      clear HKD hb2 HX; have HX := HXq; clear HXq
      have HKF := hide (rkind_any p (some ⟨tb, tq, none⟩) cap ts k (.slice Ar rows.length cr) (.slice Ab br.length cb) 0 0 0 w2 HX.out.rd.st)
      rw [HL.out] at HKF
      have HNN := hide hN
      have HE2 := hide hE2
      clear ew eb hk hkl HE hN hE2
      go_wp2_with fail
      clear hkb
      refine HKF.out.mono ?_
      rintro e w3 ⟨rfl, hb3⟩
      have HXq := hide (HX.out.below hb3)
      clear HKF hb3 HX; have HX := HXq; clear HXq
      go_upto_if 30 with fail
      go_cut [4] (fun va wx => ∃ (all : List RowD) (ya : List Value) (D : Nat → Prop) (k' : Nat) (left' : List BTok), OA w0 w wx p (some ⟨tb, tq, none⟩) cap ts k' (.slice Ar rows.length cr) (.slice Ab br.length cb) rows br xs B br.length t.l t.c done Aw cw Ap cp va all ya D ∧ ts.drop k' = left' ∧ i + all.length ≤ k' ∧ oneR rows br t.pos (t :: rest) = endR rows br t.pos done all left' ∧ (all.length = 0 → va = .slice none 0 0))
      case first =>
        by_cases k5 : kindT left = 5
        · have k5b : (kindT left == 5) = true := by simpa using k5
          obtain ⟨u5, bs, rfl⟩ : ∃ u r, left = u :: r := by
            cases left with
            | nil => simp [kindT] at k5
            | cons u r => exact ⟨u, r, rfl⟩
          have hk5 : u5.k = 5 := k5
          have hON := oneR_br (rows := rows) (br := br) (first := t.pos) HE2.out hk5
          rw [HNN.out] at hON
          have HON := hide hON
          have hkt : k < ts.length := by
            rcases Nat.lt_or_ge k ts.length with h1 | h1
            · exact h1
            · have := HL.out
              rw [List.drop_eq_nil_of_le h1] at this; cases this
          have hL5 : ts.drop (k + 1) = bs := by have := HL.out; rw [List.drop_eq_getElem_cons hkt] at this; injection this
          have HL5 := hide hL5
          have HA5 := hide (HX.out.bare.step hkt)
          have p1 := cell_heap (j := 1) HX.out.rd.st.h rfl
          have f1 := frozen_heap (j := 1) HX.out.rd.st.h
          rw [k5b]
          clear hk5 hON hL5 k5 k5b
          go_wp2_with fail
          clear p1 f1
          generalize w3.setCell ⟨p, 1, none⟩ (.int .i64 (↑k + 1)) = w5 at *
          go_loopg [4] bs.length (fun g va wr => ∃ (j : Nat) (m lf : List BTok) (ya : List Value) (D : Nat → Prop), OA w0 w wr p (some ⟨tb, tq, none⟩) cap ts j (.slice Ar rows.length cr) (.slice Ab br.length cb) rows br xs B br.length t.l t.c done Aw cw Ap cp va (leafR br.length done m) ya D ∧ ts.drop j = lf ∧ lf.length ≤ g ∧ k + 1 + m.length = j ∧ wordsT bs = m ++ wordsT lf ∧ behindT bs = behindT lf)
          case atStart => exact ⟨k + 1, [], bs, _, _, HA5.out, HL5.out, Nat.le_refl _, rfl, rfl, rfl⟩
          case round =>
            clear HA5 HL5
            obtain ⟨j, m, lf, ya, D, hA, hLf, hlg, hjm, hw1, hw2⟩ := hrel
            obtain ⟨Av, cv, rfl⟩ := own_slice hA.al.own
            have HA := hide hA
            have HLF := hide hLf
            have HW := hide (And.intro hw1 hw2)
            have HJM := hide hjm
            have hjl := HA.out.x.rd.st.il
            have HKJ := hide (rkind_any p (some ⟨tb, tq, none⟩) cap ts j (.slice Ar rows.length cr) (.slice Ab br.length cb) 0 0 0 wr hA.x.rd.st)
            rw [hLf] at HKJ
            clear hA hLf hw1 hw2 hjm
            by_cases hkj : kindT lf = 1
            · obtain ⟨u, lf', rfl⟩ : ∃ u r, lf = u :: r := by
                cases lf with
                | nil => simp [kindT] at hkj
                | cons u r => exact ⟨u, r, rfl⟩
              have HKU := hide (show u.k = 1 from hkj)
              rw [hkj] at HKJ
              have hjt : j < ts.length := by
                rcases Nat.lt_or_ge j ts.length with h1 | h1
                · exact h1
                · have := HLF.out
                  rw [List.drop_eq_nil_of_le h1] at this; cases this
              have htk : ts[j] = u := by have := HLF.out; rw [List.drop_eq_getElem_cons hjt] at this; injection this
              have hL' : ts.drop (j + 1) = lf' := by have := HLF.out; rw [List.drop_eq_getElem_cons hjt] at this; injection this
              have HL' := hide hL'
              have hdn : done.length ≤ 65536 := by have := HKL.out; omega
              clear hkj hL'
              go_wp2_with fail
              refine HKJ.out.mono ?_
              rintro e w6 ⟨rfl, hb6⟩
              have HAq := hide (HA.out.below hb6)
              clear HKJ hb6 HA; have HA := HAq; clear HAq
              have n0 := cell_heap (j := 0) HA.out.x.rb rfl
              have n1 := cell_heap (j := 1) HA.out.x.rb rfl
              have n2 := cell_heap (j := 2) HA.out.x.rb rfl
              have n3 := cell_heap (j := 3) HA.out.x.rb rfl
              have hw := word_any p (some ⟨tb, tq, none⟩) cap ts j (.slice Ar rows.length cr) (.slice Ab br.length cb) 0 0 0 br.length (done.map BTok.b) (done.map BTok.pos) Aw cw Ap cp false w6 HA.out.x.rd.st hjt (by rw [List.length_map]; exact own_src HA.out.x.ow) (by rw [List.length_map]; exact own_src HA.out.x.ops) (by rw [List.length_map]; exact hdn) (by rw [List.length_map]; exact hdn)
              rw [htk, List.length_map, List.length_map] at hw
              have HWW := hide hw
              clear hw htk hjt hdn
              go_wp2_with fail
              refine HWW.out.mono ?_
              intro e w7 hw7
              obtain ⟨Bw, dw, Bp, dp, rfl, hA7, E, hR7⟩ := HA.out.leaf hw7
              have HA7 := hide hA7
              have HR7 := hide hR7
              have HVW := hide (fun g e => (HA.out.al.own.lt g e).2)
              have HS6 := hide HA.out.x.o.size
              have HS7 := hide hA7.x.o.size
              have HRC := hide (row_at (heap_new w7 (RowC br.length (.slice Bw (done.length + 1) dw) (.slice Bp (done.length + 1) dp) false)))
              have hml : (leafR br.length done m).length ≤ 65536 := by rw [leafR_len]; have := HJM.out; omega
              clear hA7 hR7 hw7 HWW n0 n1 n2 n3 HA
              go_wp2_with (at_builtin; go_must (refine wpList_append_own_at _ rfl (.tmp 41) (.tmp 45) 49 rfl w.heap.size 62 ri _ 4 64 Try.underlying49 rz0 rz rss rb rfl (by decide) _ _ _ rfl HA7.out.al.own ⟨w7.heap.size, 0, none⟩ 1 1 [.int .i64 br.length, .slice Bw (done.length + 1) dw, .slice Bp (done.length + 1) dp, .bool false] rfl rfl HRC.out ?ones ?c63 ?cby ?cbase ?_))
              case ones => simp [Value.oneCell']
              case c63 => unfold maxLen; omega
              case cby => omega
              case cbase => exact HS7.out
              intro v8 w8 hown hgr _ hk8
              have HA8 := hide (HA7.out.add HR7.out HS6.out HVW.out hown hgr (by rw [World.size_alloc]; exact hk8))
              clear hown hgr hk8 HA7 HR7 HVW HS6 HS7 HRC
              go_wp2_with fail
              go_roundg lf'.length
              case rel => exact ⟨j + 1, m ++ [u], lf', _, _, by rw [leafR_app]; exact HA8.out, HL'.out, Nat.le_refl _, by have := HJM.out; simp; omega, by rw [HW.out.1, wordsT, if_pos HKU.out]; simp, by rw [HW.out.2, behindT, if_pos HKU.out]⟩
              case measure => simp at hlg; omega
            · obtain ⟨ew, eb⟩ := words_end hkj
              have hm := HW.out.1
              have hb2 := HW.out.2
              rw [ew, List.append_nil] at hm
              rw [eb] at hb2
              have hkjb : (kindT lf == 1) = false := by simpa using hkj
              go_wp2_with fail
              refine HKJ.out.mono ?_
              rintro e w6 ⟨rfl, hb6⟩
              have HAq := hide (HA.out.below hb6)
              clear hb6 HA; have HA := HAq; clear HAq
              have hON := HON.out
              rw [hb2, hm] at hON
              have HO2 := hide hON
              have HM := hide hm
              have HKJ2 := hide (rkind_any p (some ⟨tb, tq, none⟩) cap ts j (.slice Ar rows.length cr) (.slice Ab br.length cb) 0 0 0 w6 HA.out.x.rd.st)
              rw [HLF.out] at HKJ2
              clear ew eb hkj HKJ HW hm hb2 hON HON
              go_wp2_with fail
              clear hkjb
              refine HKJ2.out.mono ?_
              rintro e w7 ⟨rfl, hb7⟩
              have HAq := hide (HA.out.below hb7)
              clear hb7 HA; have HA := HAq; clear HAq
              clear HKJ2
              cases lf with
              | nil =>
                have c0 := cell_heap (j := 0) HA.out.x.fb rfl
                have c1 := cell_heap (j := 1) HA.out.x.fb rfl
                rw [show kindT [] = 0 from rfl]
                go_wp2_with fail
                refine (rfail_any p (some ⟨tb, tq, none⟩) cap ts j (.slice Ar rows.length cr) (.slice Ab br.length cb) 71 t.l t.c w7 HA.out.x.rd.st).mono ?_
                rintro e w9 ⟨rfl, ho9, hs9⟩
                have HO9 := hide (only_trans HA.out.x.o ho9)
                have HS9 := hide hs9
                clear ho9 hs9
                go_wp2_with fail
                (try simp only [Exit.inBlock, Exit.then])
                go_end0
                rw [HO2.out]
                exact ⟨rfl, only_below HO9.out (Nat.le_refl _) (Nat.le_of_lt hpw), by decide, _, _, _, HS9.out⟩
              | cons u us =>
                rw [show kindT (u :: us) = u.k from rfl]
                have HL7 := hide HLF.out
                have hz : (u.k == 0) = false := by simpa using HZ.out u (drop_mem HLF.out)
                have HKJ3 := hide (rkind_any p (some ⟨tb, tq, none⟩) cap ts j (.slice Ar rows.length cr) (.slice Ab br.length cb) 0 0 0 w7 HA.out.x.rd.st)
                rw [HL7.out, show kindT (u :: us) = u.k from rfl] at HKJ3
                clear HLF
                go_wp2_with fail
                clear hz
                refine HKJ3.out.mono ?_
                rintro e w8 ⟨rfl, hb8⟩
                have HAq := hide (HA.out.below hb8)
                clear hb8 HA; have HA := HAq; clear HAq
                clear HKJ3
                have hll := leafR_len br.length done m
                by_cases k6 : u.k = 6
                · by_cases hm0 : m.length = 0
                  · have b6 : (u.k != 6) = false := by rw [k6]; decide
                    have HO3 := hide (show oneR rows br t.pos (t :: rest) = .err 130 u.l u.c from by rw [HO2.out]; (try simp only); rw [if_neg (fun h => h.2 hm0)])
                    have hl0 : ((leafR br.length done m).length == 0) = true := by rw [hll, hm0]; rfl
                    have hl1 : (((leafR br.length done m).length : Int) == 0) = true := by rw [hll, hm0]; rfl
                    clear k6 hm0 hll HO2
                    have HSZ := hide (show SZ p (some ⟨tb, tq, none⟩) cap ts j (.slice Ar rows.length cr) (.slice Ab br.length cb) w.heap.size (RowC br.length (.slice Aw done.length cw) (.slice Ap done.length cp) false) w8.drew from ⟨HA.out.x.rd.st.drew, HA.out.x.rb⟩)
                    have g0 := fun x => cell_heap (j := 0) (pin_in HSZ.out x).st.h rfl
                    have g1 := fun x => cell_heap (j := 1) (pin_in HSZ.out x).st.h rfl
                    have g2 := fun x => ((pin_in HSZ.out x).tl HL7.out).1
                    have g3 := fun x => ((pin_in HSZ.out x).tl HL7.out).2
                    have dlt := drop_lt HL7.out
                    have dlt' : ((j : Int) < (ts.length : Int)) := by omega
                    go_wp2_with fail
                    refine wp_region_tree (SZ p (some ⟨tb, tq, none⟩) cap ts j (.slice Ar rows.length cr) (.slice Ab br.length cb) w.heap.size (RowC br.length (.slice Aw done.length cw) (.slice Ap done.length cp) false)) (fun k => ([12] : List Nat).contains k) (.take [0, 1, 2, 3, 4, 5, 6, 7, 8, 9, 10, 11] (.step 12 .done)) (by kernel_rfl) (by kernel_rfl) (by kernel_rfl) (by kernel_rfl) (.take (.cons (.zero) (.cons (.succ (.zero)) (.cons (.succ (.succ (.zero))) (.cons (.succ (.succ (.succ (.zero)))) (.cons (.succ (.succ (.succ (.succ (.zero))))) (.cons (.succ (.succ (.succ (.succ (.succ (.zero)))))) (.cons (.succ (.succ (.succ (.succ (.succ (.succ (.zero))))))) (.cons (.succ (.succ (.succ (.succ (.succ (.succ (.succ (.zero)))))))) (.cons (.succ (.succ (.succ (.succ (.succ (.succ (.succ (.succ (.zero))))))))) (.cons (.succ (.succ (.succ (.succ (.succ (.succ (.succ (.succ (.succ (.zero)))))))))) (.cons (.succ (.succ (.succ (.succ (.succ (.succ (.succ (.succ (.succ (.succ (.zero))))))))))) (.cons (.succ (.succ (.succ (.succ (.succ (.succ (.succ (.succ (.succ (.succ (.succ (.zero)))))))))))) .nil)))))))))))) (.step (.succ (.succ (.succ (.succ (.succ (.succ (.succ (.succ (.succ (.succ (.succ (.succ (.zero))))))))))))) rfl .done)) ?hQ ?hS ?_
                    case hQ => exact fun _ _ _ _ _ h => h
                    case hS => exact HSZ.out
                    refine wpT_take ?_
                    repeat (first | go_big_quiet_step ((fail)) | quiet_step ((fail)))
                    refine wpQuiet_nil ?_
                    refine wpT_step rfl ?_
                    intro K1 hK1
                    go_wp2_with fail
                    refine (rfail_any p (some ⟨tb, tq, none⟩) cap ts j (.slice Ar rows.length cr) (.slice Ab br.length cb) 130 u.l u.c _ HSZ.out.st).mono ?_
                    rintro e w9 ⟨rfl, ho9, hs9⟩
                    have HO9 := hide (only_trans (only_drew HA.out.x.o) ho9)
                    have HS9 := hide hs9
                    clear ho9 hs9
                    (try go_wp2_with fail)
                    refine hK1.out _ _ (fun h => by cases h) ?_
                    clear hK1
                    refine wpT_done ?_
                    go_wp2_with fail
                    (try simp only [Exit.inBlock, Exit.then])
                    go_end0
                    rw [HO3.out]
                    exact ⟨rfl, only_below HO9.out (Nat.le_refl _) (Nat.le_of_lt hpw), by decide, _, _, _, HS9.out⟩
                  · have b6 : (u.k != 6) = false := by rw [k6]; decide
                    have HO3 := hide (show oneR rows br t.pos (t :: rest) = endR rows br t.pos done (leafR br.length done m) us from by rw [HO2.out]; (try simp only); rw [if_pos ⟨k6, hm0⟩])
                    have hl0 : ((leafR br.length done m).length == 0) = false := by rw [hll]; simpa using hm0
                    have hl1 : (((leafR br.length done m).length : Int) == 0) = false := by rw [hll]; simp; exact fun h => hm0 (by simp [h])
                    have HLL := hide hll
                    have HM0 := hide hm0
                    clear k6 hm0 HO2 hll
                    have hju := drop_lt HL7.out
                    have HA9 := hide (HA.out.step hju)
                    have p1 := cell_heap (j := 1) HA.out.x.rd.st.h rfl
                    have f1 := frozen_heap (j := 1) HA.out.x.rd.st.h
                    go_wp2_with fail
                    go_meet
                    case rel => exact ⟨_, _, _, j + 1, us, HA9.out, drop_next HL7.out, by have h1 := HJM.out; have h2 := HKL.out; rw [HLL.out]; omega, HO3.out, fun h => absurd (HLL.out.symm.trans h) HM0.out⟩
                · have b6 : (u.k != 6) = true := by simpa using k6
                  have HO3 := hide (show oneR rows br t.pos (t :: rest) = .err 130 u.l u.c from by rw [HO2.out]; (try simp only); rw [if_neg (fun h => k6 h.1)])
                  clear k6 hll HO2
                  have HSZ := hide (show SZ p (some ⟨tb, tq, none⟩) cap ts j (.slice Ar rows.length cr) (.slice Ab br.length cb) w.heap.size (RowC br.length (.slice Aw done.length cw) (.slice Ap done.length cp) false) w8.drew from ⟨HA.out.x.rd.st.drew, HA.out.x.rb⟩)
                  have g0 := fun x => cell_heap (j := 0) (pin_in HSZ.out x).st.h rfl
                  have g1 := fun x => cell_heap (j := 1) (pin_in HSZ.out x).st.h rfl
                  have g2 := fun x => ((pin_in HSZ.out x).tl HL7.out).1
                  have g3 := fun x => ((pin_in HSZ.out x).tl HL7.out).2
                  have dlt := drop_lt HL7.out
                  have dlt' : ((j : Int) < (ts.length : Int)) := by omega
                  go_wp2_with fail
                  refine wp_region_tree (SZ p (some ⟨tb, tq, none⟩) cap ts j (.slice Ar rows.length cr) (.slice Ab br.length cb) w.heap.size (RowC br.length (.slice Aw done.length cw) (.slice Ap done.length cp) false)) (fun k => ([12] : List Nat).contains k) (.take [0, 1, 2, 3, 4, 5, 6, 7, 8, 9, 10, 11] (.step 12 .done)) (by kernel_rfl) (by kernel_rfl) (by kernel_rfl) (by kernel_rfl) (.take (.cons (.zero) (.cons (.succ (.zero)) (.cons (.succ (.succ (.zero))) (.cons (.succ (.succ (.succ (.zero)))) (.cons (.succ (.succ (.succ (.succ (.zero))))) (.cons (.succ (.succ (.succ (.succ (.succ (.zero)))))) (.cons (.succ (.succ (.succ (.succ (.succ (.succ (.zero))))))) (.cons (.succ (.succ (.succ (.succ (.succ (.succ (.succ (.zero)))))))) (.cons (.succ (.succ (.succ (.succ (.succ (.succ (.succ (.succ (.zero))))))))) (.cons (.succ (.succ (.succ (.succ (.succ (.succ (.succ (.succ (.succ (.zero)))))))))) (.cons (.succ (.succ (.succ (.succ (.succ (.succ (.succ (.succ (.succ (.succ (.zero))))))))))) (.cons (.succ (.succ (.succ (.succ (.succ (.succ (.succ (.succ (.succ (.succ (.succ (.zero)))))))))))) .nil)))))))))))) (.step (.succ (.succ (.succ (.succ (.succ (.succ (.succ (.succ (.succ (.succ (.succ (.succ (.zero))))))))))))) rfl .done)) ?hQ ?hS ?_
                  case hQ => exact fun _ _ _ _ _ h => h
                  case hS => exact HSZ.out
                  refine wpT_take ?_
                  repeat (first | go_big_quiet_step ((fail)) | quiet_step ((fail)))
                  refine wpQuiet_nil ?_
                  refine wpT_step rfl ?_
                  intro K1 hK1
                  go_wp2_with fail
                  refine (rfail_any p (some ⟨tb, tq, none⟩) cap ts j (.slice Ar rows.length cr) (.slice Ab br.length cb) 130 u.l u.c _ HSZ.out.st).mono ?_
                  rintro e w9 ⟨rfl, ho9, hs9⟩
                  have HO9 := hide (only_trans (only_drew HA.out.x.o) ho9)
                  have HS9 := hide hs9
                  clear ho9 hs9
                  (try go_wp2_with fail)
                  refine hK1.out _ _ (fun h => by cases h) ?_
                  clear hK1
                  refine wpT_done ?_
                  go_wp2_with fail
                  (try simp only [Exit.inBlock, Exit.then])
                  go_end0
                  rw [HO3.out]
                  exact ⟨rfl, only_below HO9.out (Nat.le_refl _) (Nat.le_of_lt hpw), by decide, _, _, _, HS9.out⟩
        · have k5b : (kindT left == 5) = false := by simpa using k5
          have HON := hide (oneR_end (rows := rows) (br := br) (first := t.pos) HE2.out k5)
          clear k5
          go_wp2_with fail
          go_meet
          case rel => exact ⟨[], [], _, k, left, HX.out.bare, HL.out, by have := HKL.out; simp; omega, by rw [HON.out, HNN.out], fun _ => rfl⟩
      case rest =>
        obtain ⟨all, ya, D, k', left', hA, hL', hka, hON, hva⟩ := hcut
        obtain ⟨Av, cv, rfl⟩ := own_slice hA.al.own
        have HA := hide hA
        have HLF := hide hL'
        have HO := hide hON
        have HVA := hide hva
        have HKA := hide hka
        have hk'l := hA.x.rd.st.il
        have HKJ := hide (rkind_any p (some ⟨tb, tq, none⟩) cap ts k' (.slice Ar rows.length cr) (.slice Ab br.length cb) 0 0 0 wc hA.x.rd.st)
        rw [hL'] at HKJ
        clear hA hL' hON hva hka HX HNN HE2 HKL
        go_wp2_with fail
        refine HKJ.out.mono ?_
        rintro e w4 ⟨rfl, hb4⟩
        have HAq := hide (HA.out.below hb4)
        clear HKJ hb4 HA; have HA := HAq; clear HAq
        cases left' with
        | nil =>
          have c0 := cell_heap (j := 0) HA.out.x.fb rfl
          have c1 := cell_heap (j := 1) HA.out.x.fb rfl
          rw [show kindT [] = 0 from rfl]
          go_wp2_with fail
          refine (rfail_any p (some ⟨tb, tq, none⟩) cap ts k' (.slice Ar rows.length cr) (.slice Ab br.length cb) 71 t.l t.c w4 HA.out.x.rd.st).mono ?_
          rintro e w9 ⟨rfl, ho9, hs9⟩
          have HO9 := hide (only_trans HA.out.x.o ho9)
          have HS9 := hide hs9
          clear ho9 hs9
          go_wp2_with fail
          (try simp only [Exit.inBlock, Exit.then])
          go_end0
          rw [HO.out]
          exact ⟨rfl, only_below HO9.out (Nat.le_refl _) (Nat.le_of_lt hpw), by decide, _, _, _, HS9.out⟩
        | cons u us =>
          rw [show kindT (u :: us) = u.k from rfl]
          have hz : (u.k == 0) = false := by simpa using HZ.out u (drop_mem HLF.out)
          have HKJ := hide (rkind_any p (some ⟨tb, tq, none⟩) cap ts k' (.slice Ar rows.length cr) (.slice Ab br.length cb) 0 0 0 w4 HA.out.x.rd.st)
          rw [HLF.out, show kindT (u :: us) = u.k from rfl] at HKJ
          go_wp2_with fail
          clear hz
          refine HKJ.out.mono ?_
          rintro e w5 ⟨rfl, hbk⟩
          have HAq := hide (HA.out.below hbk)
          clear hbk HA; have HA := HAq; clear HAq
          clear HKJ
          by_cases k4 : u.k = 4
          · have kb : (u.k == 4) = true := by rw [k4]; decide
            have HK4 := hide k4
            clear k4
            go_upto_if 107 with fail
            go_cut [4] (fun va wx => ∃ (al2 : List RowD) (ya : List Value) (D : Nat → Prop), OA w0 w wx p (some ⟨tb, tq, none⟩) cap ts k' (.slice Ar rows.length cr) (.slice Ab br.length cb) rows br xs B br.length t.l t.c done Aw cw Ap cp va al2 ya D ∧ i + al2.length ≤ k' + 1 ∧ 1 ≤ al2.length ∧ endR rows br t.pos done all (u :: us) = .ok (rows ++ al2) br us)
            case first =>
              by_cases h0 : all.length = 0
              · have hv := HVA.out h0
                obtain rfl : all = [] := List.eq_nil_of_length_eq_zero h0
                injection hv with hv1 hv2 hv3
                subst hv1 hv3
                obtain ⟨E, hRo⟩ := HA.out.x.row (d := br.length) (b := false) rfl
                have HRO := hide hRo
                have HA6 := hide (HA.out.below (bel_one w5 (RowC br.length (.slice Aw done.length cw) (.slice Ap done.length cp) false)))
                have HRC := hide (row_at (heap_new w5 (RowC br.length (.slice Aw done.length cw) (.slice Ap done.length cp) false)))
                have HS7 := hide HA6.out.x.o.size
                have n0 := cell_heap (j := 0) HA.out.x.rb rfl
                have n1 := cell_heap (j := 1) HA.out.x.rb rfl
                have n2 := cell_heap (j := 2) HA.out.x.rb rfl
                have n3 := cell_heap (j := 3) HA.out.x.rb rfl
                clear hv2 hRo h0
                go_wp2_with (at_builtin; go_must (refine wpList_append_own_at _ rfl (.tmp 108) (.tmp 110) 49 rfl w.heap.size 62 ri _ 4 64 Try.underlying49 rz0 rz rss rb rfl (by decide) _ _ _ rfl HA6.out.al.own ⟨w5.heap.size, 0, none⟩ 1 1 [.int .i64 br.length, .slice Aw done.length cw, .slice Ap done.length cp, .bool false] rfl rfl HRC.out ?ones ?c63 ?cby ?cbase ?_))
                case ones => simp [Value.oneCell']
                case c63 => simp [maxLen]
                case cby => simp
                case cbase => exact HS7.out
                intro v8 w8 hown hgr _ hk8
                have HA8 := hide (HA6.out.add HRO.out (Nat.le_refl _) (fun g e => by cases e) hown hgr (by rw [World.size_alloc]; exact hk8))
                clear hown hgr hk8 HA6 HRO HS7 HRC n0 n1 n2 n3
                go_wp2_with fail
                go_meet
                case rel => exact ⟨_, _, _, HA8.out, by have := HKA.out; simp at this ⊢; omega, by simp, by rw [endR, if_pos HK4.out]; rfl⟩
              · have hl0 : (all.length == 0) = false := by simpa using h0
                have hl1 : ((all.length : Int) == 0) = false := by simp; exact fun h => h0 (by simp [h])
                have H0 := hide h0
                clear h0
                go_wp2_with fail
                go_meet
                case rel => exact ⟨_, _, _, HA.out, by have := HKA.out; omega, by have := H0.out; omega, by rw [endR, if_pos HK4.out, if_neg H0.out]⟩
            case rest =>
              clear HA
              obtain ⟨al2, ya2, D2, hA, hka, h1a, heq⟩ := hcut
              obtain ⟨gv, cv2, hgv, -, -⟩ := own_some hA.al.own h1a
              subst hgv
              have HA := hide hA
              have HKA2 := hide hka
              have HEQ := hide heq
              have HVC := hide (own_cells hA.al.own)
              have HYL := hide hA.al.own.1
              have p2 := cell_heap (j := 2) hA.x.rd.st.h rfl
              have hwc : w0.heap.size ≤ wc.heap.size := Nat.le_trans (by have := h0w; omega) hA.x.o.size
              have HWC := hide hwc
              have hal : al2.length ≤ 65537 := by omega
              have hrl : rows.length ≤ 65536 := by omega
              clear hA hka heq hwc
              go_wp2_with (at_builtin; go_must (refine wpList_append_own_at _ rfl (.tmp 116) (.tmp 117) 49 rfl w0.heap.size 62 ri _ 4 64 Try.underlying49 rz0 rz rss rb rfl (by decide) _ _ _ rfl HA.out.x.rd.ro.own ⟨gv, 0, none⟩ al2.length cv2 ya2 rfl HYL.out HVC.out HA.out.al.rw'.one ?c63 ?cby ?cbase ?_))
              case c63 => unfold maxLen; omega
              case cby => omega
              case cbase => exact HWC.out
              intro v9 w9 hown hgr _ hk9
              obtain ⟨A9, c9, rfl⟩ := own_slice hown
              have hrow : ∀ g, (Value.slice Ar rows.length cr).ownBlock = some g → p < g := fun g e => Nat.lt_of_lt_of_le HA.out.x.rd.pl (HA.out.x.rd.ro.own.lt g e).1
              have hs9 := HA.out.x.rd.st.grow hgr hrow
              have HR9 := hide (RdS.rows_app HA.out.x.rd HA.out.al (by have := h0w; omega) HA.out.x.vl hown hgr hk9 (fun g e q => by have h1 := HA.out.x.bb g e; have h2 := (HA.out.al.hB g q).1; omega))
              have HB9 := hide ((below_grow (only_below HA.out.x.o (Nat.le_refl _) (Nat.le_of_lt hpw)) hgr (fun g e => Nat.le_of_lt (hrow g e)) (Nat.le_trans (Nat.le_of_lt hpw) HA.out.x.o.size)).setCell (p := ⟨p, 2, none⟩) (Nat.le_refl _) (.slice A9 (rows.length + al2.length) c9))
              have q2 := cell_heap (j := 2) hs9.h rfl
              have f2 := frozen_heap (j := 2) hs9.h
              have q1 := cell_heap (j := 1) HR9.out.st.h rfl
              have f1 := frozen_heap (j := 1) HR9.out.st.h
              have hkt := drop_lt HLF.out
              have HR10 := hide (HR9.out.step hkt)
              clear hown hgr hk9 hs9 hrow HVC HYL
              go_wp2_with fail
              (try simp only [Exit.inBlock, Exit.then])
              go_end0
              rw [HO.out, HEQ.out]
              exact ⟨rfl, HB9.out.setCell (p := ⟨p, 1, none⟩) (Nat.le_refl _) _, k' + 1, _, _, _, _, (drop_next HLF.out).symm, by have := HKA2.out; rw [List.length_append]; omega, hbl, HR10.out⟩
          · have kb : (u.k == 4) = false := by simpa using k4
            have HK4 := hide k4
            clear k4
            have HKJ := hide (rkind_any p (some ⟨tb, tq, none⟩) cap ts k' (.slice Ar rows.length cr) (.slice Ab br.length cb) 0 0 0 w5 HA.out.x.rd.st)
            rw [HLF.out, show kindT (u :: us) = u.k from rfl] at HKJ
            go_wp2_with fail
            refine HKJ.out.mono ?_
            rintro e w6 ⟨rfl, hbk⟩
            have HAq := hide (HA.out.below hbk)
            clear hbk HA; have HA := HAq; clear HAq
            clear HKJ
            clear kb
            by_cases k2 : u.k = 2 ∧ all.length = 0
            · skip
              obtain ⟨k22, hal0⟩ := k2
              have hv := HVA.out hal0
              obtain rfl : all = [] := List.eq_nil_of_length_eq_zero hal0
              injection hv with hv1 hv2 hv3
              subst hv1 hv3
              have kb : (u.k == 2) = true := by rw [k22]; decide
              have HK2 := hide k22
              have p3 := cell_heap (j := 3) HA.out.x.rd.st.h rfl
              clear hv2 hal0 k22
              by_cases h32 : 32 ≤ br.length
              · have d1 : decide (32 ≤ br.length) = true := decide_eq_true h32
                have d1' : decide ((32 : Int) ≤ (br.length : Int)) = true := decide_eq_true (by omega)
                have H32 := hide h32
                clear h32
                have HSZ := hide (show SZ p (some ⟨tb, tq, none⟩) cap ts k' (.slice Ar rows.length cr) (.slice Ab br.length cb) w.heap.size (RowC br.length (.slice Aw done.length cw) (.slice Ap done.length cp) false) w6.drew from ⟨HA.out.x.rd.st.drew, HA.out.x.rb⟩)
                have g0 := fun x => cell_heap (j := 0) (pin_in HSZ.out x).st.h rfl
                have g1 := fun x => cell_heap (j := 1) (pin_in HSZ.out x).st.h rfl
                have g2 := fun x => ((pin_in HSZ.out x).tl HLF.out).1
                have g3 := fun x => ((pin_in HSZ.out x).tl HLF.out).2
                have dlt := drop_lt HLF.out
                have dlt' : ((k' : Int) < (ts.length : Int)) := by omega
                go_wp2_with fail
                refine wp_region_tree (SZ p (some ⟨tb, tq, none⟩) cap ts k' (.slice Ar rows.length cr) (.slice Ab br.length cb) w.heap.size (RowC br.length (.slice Aw done.length cw) (.slice Ap done.length cp) false)) (fun k => ([12] : List Nat).contains k) (.take [0, 1, 2, 3, 4, 5, 6, 7, 8, 9, 10, 11] (.step 12 .done)) (by kernel_rfl) (by kernel_rfl) (by kernel_rfl) (by kernel_rfl) (.take (.cons (.zero) (.cons (.succ (.zero)) (.cons (.succ (.succ (.zero))) (.cons (.succ (.succ (.succ (.zero)))) (.cons (.succ (.succ (.succ (.succ (.zero))))) (.cons (.succ (.succ (.succ (.succ (.succ (.zero)))))) (.cons (.succ (.succ (.succ (.succ (.succ (.succ (.zero))))))) (.cons (.succ (.succ (.succ (.succ (.succ (.succ (.succ (.zero)))))))) (.cons (.succ (.succ (.succ (.succ (.succ (.succ (.succ (.succ (.zero))))))))) (.cons (.succ (.succ (.succ (.succ (.succ (.succ (.succ (.succ (.succ (.zero)))))))))) (.cons (.succ (.succ (.succ (.succ (.succ (.succ (.succ (.succ (.succ (.succ (.zero))))))))))) (.cons (.succ (.succ (.succ (.succ (.succ (.succ (.succ (.succ (.succ (.succ (.succ (.zero)))))))))))) .nil)))))))))))) (.step (.succ (.succ (.succ (.succ (.succ (.succ (.succ (.succ (.succ (.succ (.succ (.succ (.zero))))))))))))) rfl .done)) ?hQ ?hS ?_
                case hQ => exact fun _ _ _ _ _ h => h
                case hS => exact HSZ.out
                refine wpT_take ?_
                repeat (first | go_big_quiet_step ((fail)) | quiet_step ((fail)))
                refine wpQuiet_nil ?_
                refine wpT_step rfl ?_
                intro K1 hK1
                go_wp2_with fail
                refine (rfail_any p (some ⟨tb, tq, none⟩) cap ts k' (.slice Ar rows.length cr) (.slice Ab br.length cb) 140 u.l u.c _ HSZ.out.st).mono ?_
                rintro e w9 ⟨rfl, ho9, hs9⟩
                have HO9 := hide (only_trans (only_drew HA.out.x.o) ho9)
                have HS9 := hide hs9
                clear ho9 hs9
                (try go_wp2_with fail)
                refine hK1.out _ _ (fun h => by cases h) ?_
                clear hK1
                refine wpT_done ?_
                go_wp2_with fail
                (try simp only [Exit.inBlock, Exit.then])
                go_end0
                rw [HO.out, endR, if_neg HK4.out, if_pos ⟨HK2.out, rfl⟩, if_pos H32.out]
                exact ⟨rfl, only_below HO9.out (Nat.le_refl _) (Nat.le_of_lt hpw), by decide, _, _, _, HS9.out⟩
              · have d1 : decide (32 ≤ br.length) = false := decide_eq_false h32
                have d1' : decide ((32 : Int) ≤ (br.length : Int)) = false := decide_eq_false (by omega)
                have H32 := hide h32
                clear h32
                have n3 := cell_heap (j := 3) HA.out.x.rb rfl
                have y3 := frozen_heap (j := 3) HA.out.x.rb
                have HX7 := hide HA.out.x.open
                have hsx : SZ p (some ⟨tb, tq, none⟩) cap ts k' (.slice Ar rows.length cr) (.slice Ab br.length cb) w.heap.size (RowC br.length (.slice Aw done.length cw) (.slice Ap done.length cp) true) (w6.setCell ⟨w.heap.size, 3, none⟩ (.bool true)).drew := ⟨HX7.out.rd.st.drew, HX7.out.rb⟩
                have HSZ := hide hsx
                have g2 := fun x => cell_heap (j := 2) (pin_in HSZ.out x).st.h rfl
                have r0 := fun x => cell_heap (j := 0) (pin_in HSZ.out x).rb rfl
                have r1 := fun x => cell_heap (j := 1) (pin_in HSZ.out x).rb rfl
                have r2 := fun x => cell_heap (j := 2) (pin_in HSZ.out x).rb rfl
                have r3 := fun x => cell_heap (j := 3) (pin_in HSZ.out x).rb rfl
                clear hsx
                go_wp2_with fail
                clear n3 y3 p3 kb d1 d1'
                generalize w6.setCell ⟨w.heap.size, 3, none⟩ (.bool true) = w7 at *
                refine wp_region_tree (SZ p (some ⟨tb, tq, none⟩) cap ts k' (.slice Ar rows.length cr) (.slice Ab br.length cb) w.heap.size (RowC br.length (.slice Aw done.length cw) (.slice Ap done.length cp) true)) (fun k => ([10] : List Nat).contains k) (.take [0, 1, 2, 3, 4, 5] (.step 6 (.step 7 (.take [8, 9] (.step 10 .done))))) (by kernel_rfl) (by kernel_rfl) (by kernel_rfl) (by kernel_rfl) (.take (.cons (.zero) (.cons (.succ (.zero)) (.cons (.succ (.succ (.zero))) (.cons (.succ (.succ (.succ (.zero)))) (.cons (.succ (.succ (.succ (.succ (.zero))))) (.cons (.succ (.succ (.succ (.succ (.succ (.zero)))))) .nil)))))) (.step (.succ (.succ (.succ (.succ (.succ (.succ (.zero))))))) rfl (.step (.succ (.succ (.succ (.succ (.succ (.succ (.succ (.zero)))))))) rfl (.take (.cons (.succ (.succ (.succ (.succ (.succ (.succ (.succ (.succ (.zero))))))))) (.cons (.succ (.succ (.succ (.succ (.succ (.succ (.succ (.succ (.succ (.zero)))))))))) .nil)) (.step (.succ (.succ (.succ (.succ (.succ (.succ (.succ (.succ (.succ (.succ (.zero))))))))))) rfl .done))))) ?hQ ?hS ?_
                case hQ => exact fun _ _ _ _ _ h => h
                case hS => exact HSZ.out
                refine wpT_take ?_
                repeat (first | go_big_quiet_step ((fail)) | quiet_step ((fail)))
                refine wpQuiet_nil ?_
                have HX8 := hide (HX7.out.below (Below.refl _ _).drew)
                generalize w7.drew = x0 at *
                refine wpT_step rfl ?_
                intro K1 hK1
                go_wp2_with fail
                obtain ⟨E, hRo⟩ := HX8.out.row (d := br.length) (b := true) rfl
                have HRO := hide hRo
                have HX9 := hide (HX8.out.below (bel_one x0 (RowC br.length (.slice Aw done.length cw) (.slice Ap done.length cp) true)))
                have HRC := hide (row_at (heap_new x0 (RowC br.length (.slice Aw done.length cw) (.slice Ap done.length cp) true)))
                refine hK1.out _ _ (fun _ => pin_mem ⟨HX9.out.rd.st, HX9.out.rb⟩) ?_
                clear hK1 hRo HX8 HX7
                generalize hb_nb : x0.heap.size = nb at *
                generalize x0.alloc (RowC br.length (.slice Aw done.length cw) (.slice Ap done.length cp) true) = x1 at *
                clear hb_nb
                refine wpT_step rfl ?_
                intro K1 hK1
                refine wp_append_lies _ (.tmp 161) (.tmp 163) 49 rfl w0.heap.size 62 ri _ 4 64 Try.underlying49 rz0 rz rss rb rfl (by decide) _ _ _ rfl HX9.out.rd.ro.own ⟨nb, 0, none⟩ 1 1 [.int .i64 br.length, .slice Aw done.length cw, .slice Ap done.length cp, .bool true] rfl rfl HRC.out ?ones (by omega) ?c63 ?cby ?cbase _ rfl ?_
                case ones => simp [Value.oneCell']
                case c63 => unfold maxLen; omega
                case cby => omega
                case cbase => exact Nat.le_trans h0w HX9.out.o.size
                intro gn cgn y hown hgr hkk _
                have hkk2 : (Value.slice (some ⟨gn, 0, none⟩) (rows.length + 1) cgn).ownBlock = (Value.slice Ar rows.length cr).ownBlock ∨ (Value.slice (some ⟨gn, 0, none⟩) (rows.length + 1) cgn).ownBlock = some x1.heap.size := hkk.elim (fun h => .inl h.symm) (fun h => .inr (by rw [h]; rfl))
                have hrow : ∀ g, (Value.slice Ar rows.length cr).ownBlock = some g → p < g := fun g e => Nat.lt_of_lt_of_le HX9.out.rd.pl (HX9.out.rd.ro.own.lt g e).1
                have hs9 := HX9.out.rd.st.grow hgr hrow
                have hr9 := heap_grown HX9.out.rb hgr (fun e => by have := HX9.out.vl _ e; omega)
                have HR9 := hide (RdS.rows_app HX9.out.rd HRO.out h0w HX9.out.vl hown hgr hkk2 (fun g e q => by have h1 := HX9.out.bb g e; have h2 := (HRO.out.hB g q).1; omega))
                have HB9 := hide ((below_grow (only_below HX9.out.o (Nat.le_refl _) (Nat.le_of_lt hpw)) hgr (fun g e => Nat.le_of_lt (hrow g e)) (Nat.le_trans (Nat.le_of_lt hpw) HX9.out.o.size)).setCell (p := ⟨p, 2, none⟩) (Nat.le_refl _) (.slice (some ⟨gn, 0, none⟩) (rows.length + 1) cgn))
                have HV9 := hide (show y.heap.size ≥ w0.heap.size from Nat.le_trans (Nat.le_trans h0w HX9.out.o.size) hgr.size)
                refine hK1.out _ _ (fun _ => pin_mem ⟨hs9, hr9⟩) ?_
                have q2 := cell_heap (j := 2) hs9.h rfl
                have f2 := frozen_heap (j := 2) hs9.h
                clear hK1 hown hgr hkk hkk2 hrow hs9 hr9 HX9 HRO HRC
                refine wpT_take ?_
                repeat (first | go_big_quiet_step ((fail)) | quiet_step ((fail)))
                refine wpQuiet_nil ?_
                refine wpT_step rfl ?_
                intro K1 hK1
                go_wp2_with fail
                refine hK1.out _ _ (fun h => by cases h) ?_
                clear hK1
                refine wpT_done ?_
                clear q2 f2 g2 r0 r1 r2 r3 HSZ
                go_wp2_with fail
                generalize y.setCell ⟨p, 2, none⟩ (.slice (some ⟨gn, 0, none⟩) (rows.length + 1) cgn) = w8 at *
                have hsx : StX w8.drew p (some ⟨tb, tq, none⟩) cap ts k' (.slice (some ⟨gn, 0, none⟩) (rows.length + 1) cgn) (.slice Ab br.length cb) 0 0 0 := HR9.out.st.drew
                have HSX := hide hsx
                have g0 := fun x => cell_heap (j := 0) (pin_in (S := fun z => StX z p (some ⟨tb, tq, none⟩) cap ts k' (.slice (some ⟨gn, 0, none⟩) (rows.length + 1) cgn) (.slice Ab br.length cb) 0 0 0) HSX.out x).h rfl
                have gl := fun x => ((pin_in (S := fun z => StX z p (some ⟨tb, tq, none⟩) cap ts k' (.slice (some ⟨gn, 0, none⟩) (rows.length + 1) cgn) (.slice Ab br.length cb) 0 0 0) HSX.out x).tl HLF.out).1
                have gc := fun x => ((pin_in (S := fun z => StX z p (some ⟨tb, tq, none⟩) cap ts k' (.slice (some ⟨gn, 0, none⟩) (rows.length + 1) cgn) (.slice Ab br.length cb) 0 0 0) HSX.out x).tl HLF.out).2
                have gi := fun x => cell_heap (j := 1) (pin_in (S := fun z => StX z p (some ⟨tb, tq, none⟩) cap ts k' (.slice (some ⟨gn, 0, none⟩) (rows.length + 1) cgn) (.slice Ab br.length cb) 0 0 0) HSX.out x).h rfl
                have gb := fun x => cell_heap (j := 3) (pin_in (S := fun z => StX z p (some ⟨tb, tq, none⟩) cap ts k' (.slice (some ⟨gn, 0, none⟩) (rows.length + 1) cgn) (.slice Ab br.length cb) 0 0 0) HSX.out x).h rfl
                have hkt := drop_lt HLF.out
                have dlt' : ((k' : Int) < (ts.length : Int)) := by omega
                clear hsx
                refine wp_region_tree (fun z => StX z p (some ⟨tb, tq, none⟩) cap ts k' (.slice (some ⟨gn, 0, none⟩) (rows.length + 1) cgn) (.slice Ab br.length cb) 0 0 0) (fun k => ([20] : List Nat).contains k) (.take [0, 1, 2, 3, 4, 5, 6, 7, 8, 9, 10, 11, 12, 13, 14, 15] (.step 16 (.step 17 (.take [18, 19] (.step 20 .done))))) (by kernel_rfl) (by kernel_rfl) (by kernel_rfl) (by kernel_rfl) (.take (.cons (.zero) (.cons (.succ (.zero)) (.cons (.succ (.succ (.zero))) (.cons (.succ (.succ (.succ (.zero)))) (.cons (.succ (.succ (.succ (.succ (.zero))))) (.cons (.succ (.succ (.succ (.succ (.succ (.zero)))))) (.cons (.succ (.succ (.succ (.succ (.succ (.succ (.zero))))))) (.cons (.succ (.succ (.succ (.succ (.succ (.succ (.succ (.zero)))))))) (.cons (.succ (.succ (.succ (.succ (.succ (.succ (.succ (.succ (.zero))))))))) (.cons (.succ (.succ (.succ (.succ (.succ (.succ (.succ (.succ (.succ (.zero)))))))))) (.cons (.succ (.succ (.succ (.succ (.succ (.succ (.succ (.succ (.succ (.succ (.zero))))))))))) (.cons (.succ (.succ (.succ (.succ (.succ (.succ (.succ (.succ (.succ (.succ (.succ (.zero)))))))))))) (.cons (.succ (.succ (.succ (.succ (.succ (.succ (.succ (.succ (.succ (.succ (.succ (.succ (.zero))))))))))))) (.cons (.succ (.succ (.succ (.succ (.succ (.succ (.succ (.succ (.succ (.succ (.succ (.succ (.succ (.zero)))))))))))))) (.cons (.succ (.succ (.succ (.succ (.succ (.succ (.succ (.succ (.succ (.succ (.succ (.succ (.succ (.succ (.zero))))))))))))))) (.cons (.succ (.succ (.succ (.succ (.succ (.succ (.succ (.succ (.succ (.succ (.succ (.succ (.succ (.succ (.succ (.zero)))))))))))))))) .nil)))))))))))))))) (.step (.succ (.succ (.succ (.succ (.succ (.succ (.succ (.succ (.succ (.succ (.succ (.succ (.succ (.succ (.succ (.succ (.zero))))))))))))))))) rfl (.step (.succ (.succ (.succ (.succ (.succ (.succ (.succ (.succ (.succ (.succ (.succ (.succ (.succ (.succ (.succ (.succ (.succ (.zero)))))))))))))))))) rfl (.take (.cons (.succ (.succ (.succ (.succ (.succ (.succ (.succ (.succ (.succ (.succ (.succ (.succ (.succ (.succ (.succ (.succ (.succ (.succ (.zero))))))))))))))))))) (.cons (.succ (.succ (.succ (.succ (.succ (.succ (.succ (.succ (.succ (.succ (.succ (.succ (.succ (.succ (.succ (.succ (.succ (.succ (.succ (.zero)))))))))))))))))))) .nil)) (.step (.succ (.succ (.succ (.succ (.succ (.succ (.succ (.succ (.succ (.succ (.succ (.succ (.succ (.succ (.succ (.succ (.succ (.succ (.succ (.succ (.zero))))))))))))))))))))) rfl .done))))) ?hQ ?hS ?_
                case hQ => exact fun _ _ _ _ _ h => h
                case hS => exact HSX.out
                refine wpT_take ?_
                repeat (first | go_big_quiet_step ((fail)) | quiet_step ((fail)))
                refine wpQuiet_nil ?_
                have HR8 := hide (HR9.out.below (Below.refl _ _).drew)
                have HB8 := hide HB9.out.drew
                have HR8 := hide (HR9.out.below (Below.refl _ _).drew)
                have HB8 := hide HB9.out.drew
                clear HR9 HB9
                generalize w8.drew = x0 at *
                have HS8 := hide (show w0.heap.size ≤ x0.heap.size from Nat.le_trans h0w HB8.out.size)
                refine wpT_step rfl ?_
                intro K1 hK1
                go_wp2_with fail
                have HRC := hide (row_at (heap_new x0 (PosC u.l u.c)))
                have HRa := hide (HR8.out.below (bel_one x0 (PosC u.l u.c)))
                have HBa := hide (HB8.out.alloc (Nat.le_trans (Nat.le_of_lt hpw) HB8.out.size) (PosC u.l u.c))
                have HSa := hide (show w0.heap.size ≤ (x0.alloc (PosC u.l u.c)).heap.size from by rw [World.size_alloc]; have := HS8.out; omega)
                refine hK1.out _ _ (fun _ => pin_mem HRa.out.st) ?_
                clear hK1 HR8 HB8 HS8
                generalize hb_nb : x0.heap.size = nb2 at *
                generalize x0.alloc (PosC u.l u.c) = x2 at *
                clear hb_nb
                refine wpT_step rfl ?_
                intro K1 hK1
                refine wp_append_lies _ (.tmp 171) (.tmp 183) 42 rfl w0.heap.size 24 qi _ 2 16 Try.underlying42 qz0 qz qs qb rfl (by decide) _ _ _ rfl HRa.out.br ⟨nb2, 0, none⟩ 1 1 [.int .i64 u.l, .int .i64 u.c] rfl rfl HRC.out ?ones (by omega) ?c63 ?cby HSa.out _ rfl ?_
                case ones => simp [Value.oneCell']
                case c63 => unfold maxLen; omega
                case cby => omega
                intro gm cgm y2 hown hgr hkk _
                have hkk2 : (Value.slice (some ⟨gm, 0, none⟩) (br.length + 1) cgm).ownBlock = (Value.slice Ab br.length cb).ownBlock ∨ (Value.slice (some ⟨gm, 0, none⟩) (br.length + 1) cgm).ownBlock = some x2.heap.size := hkk.elim (fun h => .inl h.symm) (fun h => .inr (by rw [h]; rfl))
                have hrow : ∀ g, (Value.slice Ab br.length cb).ownBlock = some g → p < g := fun g e => Nat.lt_of_lt_of_le HRa.out.pl (HRa.out.br.lt g e).1
                have hs9 := HRa.out.st.grow hgr hrow
                have HRb := hide (RdS.push (q := u.pos) HRa.out hown hgr hkk2)
                have HBb := hide ((below_grow HBa.out hgr (fun g e => Nat.le_of_lt (hrow g e)) (Nat.le_trans (Nat.le_of_lt HRa.out.pl) HSa.out)).setCell (p := ⟨p, 3, none⟩) (Nat.le_refl _) (.slice (some ⟨gm, 0, none⟩) (br.length + 1) cgm))
                refine hK1.out _ _ (fun _ => pin_mem hs9) ?_
                have q2 := cell_heap (j := 3) hs9.h rfl
                have f2 := frozen_heap (j := 3) hs9.h
                clear hK1 hown hgr hkk hkk2 hrow hs9 HRC HRa HBa
                refine wpT_take ?_
                repeat (first | go_big_quiet_step ((fail)) | quiet_step ((fail)))
                refine wpQuiet_nil ?_
                refine wpT_step rfl ?_
                intro K1 hK1
                go_wp2_with fail
                refine hK1.out _ _ (fun h => by cases h) ?_
                clear hK1
                refine wpT_done ?_
                clear q2 f2 g0 gl gc gi gb HSX
                have q1 := cell_heap (j := 1) HRb.out.st.h rfl
                have f1 := frozen_heap (j := 1) HRb.out.st.h
                have HR10 := hide (HRb.out.step hkt)
                go_wp2_with fail
                (try simp only [Exit.inBlock, Exit.then])
                go_end0
                rw [HO.out, endR, if_neg HK4.out, if_pos ⟨HK2.out, rfl⟩, if_neg H32.out]
                exact ⟨rfl, HBb.out.setCell (p := ⟨p, 1, none⟩) (Nat.le_refl _) _, k' + 1, _, _, _, _, (drop_next HLF.out).symm, by have := HKA.out; rw [List.length_append]; simp at this ⊢; omega, by have := H32.out; simp; omega, HR10.out⟩
            · have HK2 := hide k2
              by_cases k22 : u.k = 2
              · have kb : (u.k == 2) = true := by rw [k22]; decide
                have hl0 : (all.length == 0) = false := by simpa using fun h => k2 ⟨k22, h⟩
                have hl1 : ((all.length : Int) == 0) = false := by simp; exact fun h => k2 ⟨k22, by simp [h]⟩
                clear k2 k22
                have HSZ := hide (show SZ p (some ⟨tb, tq, none⟩) cap ts k' (.slice Ar rows.length cr) (.slice Ab br.length cb) w.heap.size (RowC br.length (.slice Aw done.length cw) (.slice Ap done.length cp) false) w6.drew from ⟨HA.out.x.rd.st.drew, HA.out.x.rb⟩)
                have g0 := fun x => cell_heap (j := 0) (pin_in HSZ.out x).st.h rfl
                have g1 := fun x => cell_heap (j := 1) (pin_in HSZ.out x).st.h rfl
                have g2 := fun x => ((pin_in HSZ.out x).tl HLF.out).1
                have g3 := fun x => ((pin_in HSZ.out x).tl HLF.out).2
                have dlt := drop_lt HLF.out
                have dlt' : ((k' : Int) < (ts.length : Int)) := by omega
                go_wp2_with fail
                refine wp_region_tree (SZ p (some ⟨tb, tq, none⟩) cap ts k' (.slice Ar rows.length cr) (.slice Ab br.length cb) w.heap.size (RowC br.length (.slice Aw done.length cw) (.slice Ap done.length cp) false)) (fun k => ([12] : List Nat).contains k) (.take [0, 1, 2, 3, 4, 5, 6, 7, 8, 9, 10, 11] (.step 12 .done)) (by kernel_rfl) (by kernel_rfl) (by kernel_rfl) (by kernel_rfl) (.take (.cons (.zero) (.cons (.succ (.zero)) (.cons (.succ (.succ (.zero))) (.cons (.succ (.succ (.succ (.zero)))) (.cons (.succ (.succ (.succ (.succ (.zero))))) (.cons (.succ (.succ (.succ (.succ (.succ (.zero)))))) (.cons (.succ (.succ (.succ (.succ (.succ (.succ (.zero))))))) (.cons (.succ (.succ (.succ (.succ (.succ (.succ (.succ (.zero)))))))) (.cons (.succ (.succ (.succ (.succ (.succ (.succ (.succ (.succ (.zero))))))))) (.cons (.succ (.succ (.succ (.succ (.succ (.succ (.succ (.succ (.succ (.zero)))))))))) (.cons (.succ (.succ (.succ (.succ (.succ (.succ (.succ (.succ (.succ (.succ (.zero))))))))))) (.cons (.succ (.succ (.succ (.succ (.succ (.succ (.succ (.succ (.succ (.succ (.succ (.zero)))))))))))) .nil)))))))))))) (.step (.succ (.succ (.succ (.succ (.succ (.succ (.succ (.succ (.succ (.succ (.succ (.succ (.zero))))))))))))) rfl .done)) ?hQ ?hS ?_
                case hQ => exact fun _ _ _ _ _ h => h
                case hS => exact HSZ.out
                refine wpT_take ?_
                repeat (first | go_big_quiet_step ((fail)) | quiet_step ((fail)))
                refine wpQuiet_nil ?_
                refine wpT_step rfl ?_
                intro K1 hK1
                go_wp2_with fail
                refine (rfail_any p (some ⟨tb, tq, none⟩) cap ts k' (.slice Ar rows.length cr) (.slice Ab br.length cb) 130 u.l u.c _ HSZ.out.st).mono ?_
                rintro e w9 ⟨rfl, ho9, hs9⟩
                have HO9 := hide (only_trans (only_drew HA.out.x.o) ho9)
                have HS9 := hide hs9
                clear ho9 hs9
                (try go_wp2_with fail)
                refine hK1.out _ _ (fun h => by cases h) ?_
                clear hK1
                refine wpT_done ?_
                go_wp2_with fail
                (try simp only [Exit.inBlock, Exit.then])
                go_end0
                rw [HO.out, endR, if_neg HK4.out, if_neg HK2.out]
                exact ⟨rfl, only_below HO9.out (Nat.le_refl _) (Nat.le_of_lt hpw), by decide, _, _, _, HS9.out⟩
              · have kb : (u.k == 2) = false := by simpa using k22
                clear k2 k22
                have HSZ := hide (show SZ p (some ⟨tb, tq, none⟩) cap ts k' (.slice Ar rows.length cr) (.slice Ab br.length cb) w.heap.size (RowC br.length (.slice Aw done.length cw) (.slice Ap done.length cp) false) w6.drew from ⟨HA.out.x.rd.st.drew, HA.out.x.rb⟩)
                have g0 := fun x => cell_heap (j := 0) (pin_in HSZ.out x).st.h rfl
                have g1 := fun x => cell_heap (j := 1) (pin_in HSZ.out x).st.h rfl
                have g2 := fun x => ((pin_in HSZ.out x).tl HLF.out).1
                have g3 := fun x => ((pin_in HSZ.out x).tl HLF.out).2
                have dlt := drop_lt HLF.out
                have dlt' : ((k' : Int) < (ts.length : Int)) := by omega
                go_wp2_with fail
                refine wp_region_tree (SZ p (some ⟨tb, tq, none⟩) cap ts k' (.slice Ar rows.length cr) (.slice Ab br.length cb) w.heap.size (RowC br.length (.slice Aw done.length cw) (.slice Ap done.length cp) false)) (fun k => ([12] : List Nat).contains k) (.take [0, 1, 2, 3, 4, 5, 6, 7, 8, 9, 10, 11] (.step 12 .done)) (by kernel_rfl) (by kernel_rfl) (by kernel_rfl) (by kernel_rfl) (.take (.cons (.zero) (.cons (.succ (.zero)) (.cons (.succ (.succ (.zero))) (.cons (.succ (.succ (.succ (.zero)))) (.cons (.succ (.succ (.succ (.succ (.zero))))) (.cons (.succ (.succ (.succ (.succ (.succ (.zero)))))) (.cons (.succ (.succ (.succ (.succ (.succ (.succ (.zero))))))) (.cons (.succ (.succ (.succ (.succ (.succ (.succ (.succ (.zero)))))))) (.cons (.succ (.succ (.succ (.succ (.succ (.succ (.succ (.succ (.zero))))))))) (.cons (.succ (.succ (.succ (.succ (.succ (.succ (.succ (.succ (.succ (.zero)))))))))) (.cons (.succ (.succ (.succ (.succ (.succ (.succ (.succ (.succ (.succ (.succ (.zero))))))))))) (.cons (.succ (.succ (.succ (.succ (.succ (.succ (.succ (.succ (.succ (.succ (.succ (.zero)))))))))))) .nil)))))))))))) (.step (.succ (.succ (.succ (.succ (.succ (.succ (.succ (.succ (.succ (.succ (.succ (.succ (.zero))))))))))))) rfl .done)) ?hQ ?hS ?_
                case hQ => exact fun _ _ _ _ _ h => h
                case hS => exact HSZ.out
                refine wpT_take ?_
                repeat (first | go_big_quiet_step ((fail)) | quiet_step ((fail)))
                refine wpQuiet_nil ?_
                refine wpT_step rfl ?_
                intro K1 hK1
                go_wp2_with fail
                refine (rfail_any p (some ⟨tb, tq, none⟩) cap ts k' (.slice Ar rows.length cr) (.slice Ab br.length cb) 130 u.l u.c _ HSZ.out.st).mono ?_
                rintro e w9 ⟨rfl, ho9, hs9⟩
                have HO9 := hide (only_trans (only_drew HA.out.x.o) ho9)
                have HS9 := hide hs9
                clear ho9 hs9
                (try go_wp2_with fail)
                refine hK1.out _ _ (fun h => by cases h) ?_
                clear hK1
                refine wpT_done ?_
                go_wp2_with fail
                (try simp only [Exit.inBlock, Exit.then])
                go_end0
                rw [HO.out, endR, if_neg HK4.out, if_neg HK2.out]
                exact ⟨rfl, only_below HO9.out (Nat.le_refl _) (Nat.le_of_lt hpw), by decide, _, _, _, HS9.out⟩
end
end Go.Proofs.Ytihmmmodimionaa.Tr
namespace Go.Proofs.Ytihmmmodimionaa.Lx
open Go.RowKit

theorem adv_take (b : ByteArray) (k : Nat) (h : k < b.size) (l c : Int) : adv ((T b).take (k + 1)) l c = if b[k] = 10 then ((adv ((T b).take k) l c).1 + 1, 1) else ((adv ((T b).take k) l c).1, (adv ((T b).take k) l c).2 + 1) := by
  rw [T_take b k h, adv_snoc]

set_option maxHeartbeats 1000000 in
theorem at_any (s : ByteArray) (i : Nat) (w : World) (hi : i ≤ s.size) (hs : s.size ≤ 65536) :
    Calls Try.prog 33 #[.string s, .int .i64 i] w fun e w' => e = .returned (.agg #[.int .i64 (adv ((T s).take i) 1 1).1, .int .i64 (adv ((T s).take i) 1 1).2]) ∧ Below w.heap.size w w' := by
  go_enter Try.func33, Try.ntmps33
  go_wp2
  go_loopw [6] (fun j wr => ∃ (k : Nat) (l c : Int), k ≤ i ∧ j = .int .i64 k ∧ 1 ≤ l ∧ l ≤ k + 1 ∧ 1 ≤ c ∧ c ≤ k + 1 ∧ Below w.heap.size w wr ∧ PosR wr w.heap.size 0 0 ∧ PosR wr (w.heap.size + 1) l c ∧ adv ((T s).take k) 1 1 = (l, c)) (fun j _ => i - (intOf j).toNat)
  case atStart =>
    refine ⟨0, 1, 1, Nat.zero_le _, rfl, by omega, by omega, by omega, by omega, by go_grown, ?_, ?_, rfl⟩
    · exact heap_old (heap_new w _)
    · exact heap_new2 w _ _
  case round =>
    obtain ⟨k, l, c, hk, rfl, hl1, hl2, hc1, hc2, hb, hp, hq, hf⟩ := hrel
    have p0 := cell_heap (j := 0) hp rfl
    have p1 := cell_heap (j := 1) hp rfl
    have q0 := cell_heap (j := 0) hq rfl
    have q1 := cell_heap (j := 1) hq rfl
    have fp0 := frozen_heap (j := 0) hp
    have fp1 := frozen_heap (j := 1) hp
    have fq0 := frozen_heap (j := 0) hq
    have fq1 := frozen_heap (j := 1) hq
    have HP := hide hp
    have HQ := hide hq
    have HB := hide hb
    clear hp hq hb
    by_cases hlt : k < i
    · have hd := adv_take s k (by omega) 1 1
      rw [hf] at hd
      clear hf
      by_cases h3 : s[k] = 10
      · have h3' : ((s[k].toNat : Int) == 10) = true := beq_it (by have := (eq10 _).1 h3; omega)
        rw [if_pos h3] at hd
        have HD := hide hd
        clear h3 hd
        go_wp2
        go_roundw
        case rel =>
          refine ⟨k + 1, l + 1, 1, by omega, by go_num, by omega, by omega, by omega, by omega, ?_, ?_, ?_, HD.out⟩
          · exact ((HB.out.setCell (p := ⟨w.heap.size + 1, 1, none⟩) (by simp) _).setCell (p := ⟨w.heap.size + 1, 0, none⟩) (by simp) _).setCell (p := ⟨w.heap.size + 1, 1, none⟩) (by simp) _
          · exact heap_far (heap_far (heap_far HP.out (by simp)) (by simp)) (by simp)
          · exact heap_set (heap_set (heap_set HQ.out))
        case measure => simp [intOf]; omega
      · have h3' : ((s[k].toNat : Int) == 10) = false := beq_if (by intro e; exact h3 ((eq10 _).2 (by omega)))
        rw [if_neg h3] at hd
        have HD := hide hd
        clear h3 hd
        go_wp2
        go_roundw
        case rel =>
          refine ⟨k + 1, l, c + 1, by omega, by go_num, by omega, by omega, by omega, by omega, ?_, ?_, ?_, HD.out⟩
          · exact HB.out.setCell (p := ⟨w.heap.size + 1, 1, none⟩) (by simp) _
          · exact heap_far HP.out (by simp)
          · exact heap_set HQ.out
        case measure => simp [intOf]; omega
    · obtain rfl : k = i := by omega
      have HF := hide hf
      clear hf
      go_wp2
      refine bodyPost_ret (v := .agg #[.int .i64 l, .int .i64 c]) (by simp [results, Try.results33, go_sem, p0, p1]) rfl ⟨by rw [HF.out], ?_⟩
      exact (HB.out.setCell (p := ⟨w.heap.size, 0, none⟩) (Nat.le_refl _) _).setCell (p := ⟨w.heap.size, 1, none⟩) (Nat.le_refl _) _

theorem chkL_drop (b : ByteArray) (k : Nat) (h : k < b.size) (l c : Int) : chkL ((T b).drop k) l c = if 4096 < l then (l, c, 3) else if b[k] = 10 then chkL ((T b).drop (k + 1)) (l + 1) 1 else if b[k].toNat < 32 ∨ 126 < b[k].toNat then (l, c, 70) else chkL ((T b).drop (k + 1)) l (c + 1) := by
  rw [T_drop b k h, chkL]

set_option maxHeartbeats 1000000 in
theorem ref_check (s : ByteArray) (w : World) (hs : s.size ≤ maxLen) :
    Calls Try.prog 30 #[.string s] w fun e w' => e = .returned (.tuple #[.agg #[.int .i64 (chk (T s)).1, .int .i64 (chk (T s)).2.1], .int .i64 (chk (T s)).2.2]) ∧ Below w.heap.size w w' := by
  unfold maxLen at hs
  by_cases h1 : 65536 < s.size
  · have HC : Hid (chk (T s) = (0, 0, 3)) := by show _ = _; unfold chk; rw [T_len, if_pos h1]
    go_enter Try.func30, Try.ntmps30
    go_wp2
    go_returns
    exact ⟨by rw [HC.out], by go_grown⟩
  · have HC : Hid (chk (T s) = chkL (T s) 1 1) := by show _ = _; unfold chk; rw [T_len, if_neg h1]
    go_enter Try.func30, Try.ntmps30
    go_wp2
    go_loopw [4, 5] (fun x j wr => ∃ (k : Nat) (l c : Int), k ≤ s.size ∧ j = .int .i64 k ∧ x = .int .i64 l ∧ 1 ≤ l ∧ l ≤ k + 1 ∧ Below w.heap.size w wr ∧ PosR wr w.heap.size 0 0 ∧ adv ((T s).take k) 1 1 = (l, c) ∧ chkL (T s) 1 1 = chkL ((T s).drop k) l c) (fun _ j _ => s.size - (intOf j).toNat)
    case atStart =>
      exact ⟨0, 1, 1, Nat.zero_le _, rfl, rfl, by omega, by omega, by go_grown, heap_new w _, rfl, rfl⟩
    case round =>
      obtain ⟨k, l, c, hk, rfl, rfl, hl1, hl2, hb, hp, hf, hg⟩ := hrel
      have p0 := cell_heap (j := 0) hp rfl
      have p1 := cell_heap (j := 1) hp rfl
      have fp0 := frozen_heap (j := 0) hp
      have fp1 := frozen_heap (j := 1) hp
      have HP := hide hp
      have HB := hide hb
      have HAT := hide (at_any s k)
      clear hp hb
      by_cases hlt : k < s.size
      · have hd := chkL_drop s k hlt l c
        rw [← hg] at hd
        have hn := adv_take s k hlt 1 1
        rw [hf] at hn
        have HF := hide hf
        clear hg hf
        by_cases h2 : 4096 < l
        · rw [if_pos h2] at hd
          have HD := hide hd
          clear hd hn
          go_wp2_with fail
          refine (HAT.out _ hk (by omega)).mono ?_; rintro e w1 ⟨rfl, hb1⟩
          have hp1 : PosR w1 w.heap.size 0 0 := heapB hb1 HP.out
          have p0 := cell_heap (j := 0) hp1 rfl
          have p1 := cell_heap (j := 1) hp1 rfl
          have fp0 := frozen_heap (j := 0) hp1
          have fp1 := frozen_heap (j := 1) hp1
          have HB1 := hide (below_wide HB.out hb1)
          rw [HF.out]
          clear hp1 hb1
          go_wp2_with fail
          refine bodyPost_ret (v := .tuple #[.agg #[.int .i64 l, .int .i64 c], .int .i64 3]) (by simp [results, Try.results30, go_sem, p0, p1]) rfl ⟨by rw [HC.out, HD.out], ?_⟩
          exact (HB1.out.setCell (p := ⟨w.heap.size, 0, none⟩) (Nat.le_refl _) _).setCell (p := ⟨w.heap.size, 1, none⟩) (Nat.le_refl _) _
        · by_cases h3 : s[k] = 10
          · have h3' : ((s[k].toNat : Int) == 10) = true := beq_it (by have := (eq10 _).1 h3; omega)
            rw [if_neg h2, if_pos h3] at hd
            rw [if_pos h3] at hn
            have HD := hide hd
            have HN := hide hn
            clear h3 hd hn
            go_wp2_with fail
            go_roundw
            case rel => exact ⟨k + 1, l + 1, 1, by omega, by go_num, rfl, by omega, by omega, HB.out, HP.out, HN.out, HD.out⟩
            case measure => simp [intOf]; omega
          · have h3' : ((s[k].toNat : Int) == 10) = false := beq_if (by intro e; exact h3 ((eq10 _).2 (by omega)))
            rw [if_neg h3] at hn
            by_cases h4 : s[k].toNat < 32 ∨ 126 < s[k].toNat
            · rw [if_neg h2, if_neg h3, if_pos h4] at hd
              have HD := hide hd
              clear h3 hd hn
              by_cases h5 : (s[k].toNat : Int) < 32
              · have h5' : decide ((s[k].toNat : Int) < 32) = true := by simp; omega
                go_wp2_with fail
                refine (HAT.out _ hk (by omega)).mono ?_; rintro e w1 ⟨rfl, hb1⟩
                have hp1 : PosR w1 w.heap.size 0 0 := heapB hb1 HP.out
                have p0 := cell_heap (j := 0) hp1 rfl
                have p1 := cell_heap (j := 1) hp1 rfl
                have fp0 := frozen_heap (j := 0) hp1
                have fp1 := frozen_heap (j := 1) hp1
                have HB1 := hide (below_wide HB.out hb1)
                rw [HF.out]
                clear hp1 hb1
                go_wp2_with fail
                refine bodyPost_ret (v := .tuple #[.agg #[.int .i64 l, .int .i64 c], .int .i64 70]) (by simp [results, Try.results30, go_sem, p0, p1]) rfl ⟨by rw [HC.out, HD.out], ?_⟩
                exact (HB1.out.setCell (p := ⟨w.heap.size, 0, none⟩) (Nat.le_refl _) _).setCell (p := ⟨w.heap.size, 1, none⟩) (Nat.le_refl _) _
              · have h5' : decide ((s[k].toNat : Int) < 32) = false := by simp; omega
                have h6 : decide ((126 : Int) < (s[k].toNat : Int)) = true := by simp; omega
                go_wp2_with fail
                refine (HAT.out _ hk (by omega)).mono ?_; rintro e w1 ⟨rfl, hb1⟩
                have hp1 : PosR w1 w.heap.size 0 0 := heapB hb1 HP.out
                have p0 := cell_heap (j := 0) hp1 rfl
                have p1 := cell_heap (j := 1) hp1 rfl
                have fp0 := frozen_heap (j := 0) hp1
                have fp1 := frozen_heap (j := 1) hp1
                have HB1 := hide (below_wide HB.out hb1)
                rw [HF.out]
                clear hp1 hb1
                go_wp2_with fail
                refine bodyPost_ret (v := .tuple #[.agg #[.int .i64 l, .int .i64 c], .int .i64 70]) (by simp [results, Try.results30, go_sem, p0, p1]) rfl ⟨by rw [HC.out, HD.out], ?_⟩
                exact (HB1.out.setCell (p := ⟨w.heap.size, 0, none⟩) (Nat.le_refl _) _).setCell (p := ⟨w.heap.size, 1, none⟩) (Nat.le_refl _) _
            · rw [if_neg h2, if_neg h3, if_neg h4] at hd
              have h5' : decide ((s[k].toNat : Int) < 32) = false := by simp; omega
              have h6 : decide ((126 : Int) < (s[k].toNat : Int)) = false := by simp; omega
              have HD := hide hd
              have HN := hide hn
              clear h3 h4 hd hn
              go_wp2_with fail
              go_roundw
              case rel => exact ⟨k + 1, l, c + 1, by omega, by go_num, rfl, by omega, by omega, HB.out, HP.out, HN.out, HD.out⟩
              case measure => simp [intOf]; omega
      · have HF : Hid (chkL (T s) 1 1 = (0, 0, 0)) := by
          show _ = _
          rw [hg, List.drop_eq_nil_of_le (by rw [T_len]; omega)]; rfl
        clear hf hg
        go_wp2_with fail
        refine bodyPost_ret (v := .tuple #[.agg #[.int .i64 0, .int .i64 0], .int .i64 0]) (by simp [results, Try.results30, go_sem, p0, p1]) rfl ⟨by rw [HC.out, HF.out], ?_⟩
        exact (HB.out.setCell (p := ⟨w.heap.size, 0, none⟩) (Nat.le_refl _) _).setCell (p := ⟨w.heap.size, 1, none⟩) (Nat.le_refl _) _
end Go.Proofs.Ytihmmmodimionaa.Lx
namespace Go.Proofs.Ytihmmmodimionaa.Lx
open Go.RowKit

/-- the kind of a sign; 0: none -/
def sgn (x : UInt8) : Int := if 0 ≤ Lib.indexByte signs x then 2 + Lib.indexByte signs x else 0
theorem sgn_def (x : UInt8) : sgn x = if x = 123 then 2 else if x = 125 then 3 else if x = 59 then 4 else if x = 91 then 5 else if x = 93 then 6 else 0 := by
  unfold sgn signs
  by_cases h1 : x = 123
  · subst h1; decide
  by_cases h2 : x = 125
  · subst h2; decide
  by_cases h3 : x = 59
  · subst h3; decide
  by_cases h4 : x = 91
  · subst h4; decide
  by_cases h5 : x = 93
  · subst h5; decide
  have n1 : ((123 : UInt8) == x) = false := beq_eq_false_iff_ne.2 (fun h => h1 h.symm)
  have n2 : ((125 : UInt8) == x) = false := beq_eq_false_iff_ne.2 (fun h => h2 h.symm)
  have n3 : ((59 : UInt8) == x) = false := beq_eq_false_iff_ne.2 (fun h => h3 h.symm)
  have n4 : ((91 : UInt8) == x) = false := beq_eq_false_iff_ne.2 (fun h => h4 h.symm)
  have n5 : ((93 : UInt8) == x) = false := beq_eq_false_iff_ne.2 (fun h => h5 h.symm)
  simp [Lib.indexByte, n1, n2, n3, n4, n5, h1, h2, h3, h4, h5]
theorem sign_any (x : UInt8) (w : World) :
    Calls Try.prog 34 #[.int .u8 x.toNat] w fun e w' => e = .returned (.int .u8 (sgn x)) ∧ w = w' := by
  have hd := sgn_def x
  have e1 : x = 123 ↔ (x.toNat : Int) = 123 := u8_int x 123 (by omega)
  have e2 : x = 125 ↔ (x.toNat : Int) = 125 := u8_int x 125 (by omega)
  have e3 : x = 59 ↔ (x.toNat : Int) = 59 := u8_int x 59 (by omega)
  have e4 : x = 91 ↔ (x.toNat : Int) = 91 := u8_int x 91 (by omega)
  have e5 : x = 93 ↔ (x.toNat : Int) = 93 := u8_int x 93 (by omega)
  simp only [e1, e2, e3, e4, e5] at hd
  clear e1 e2 e3 e4 e5
  by_cases h1 : (x.toNat : Int) = 123
  · rw [if_pos h1] at hd
    have h1' := beq_it h1
    have HD := hide hd
    clear hd h1
    go_enter Try.func34, Try.ntmps34
    go_wp2_with fail
    go_ret
    exact ⟨ret_int HD.out.symm, rfl⟩
  rw [if_neg h1] at hd
  by_cases h2 : (x.toNat : Int) = 125
  · rw [if_pos h2] at hd
    have h1' := beq_if h1
    have h2' := beq_it h2
    have HD := hide hd
    clear hd h1 h2
    go_enter Try.func34, Try.ntmps34
    go_wp2_with fail
    go_ret
    exact ⟨ret_int HD.out.symm, rfl⟩
  rw [if_neg h2] at hd
  by_cases h3 : (x.toNat : Int) = 59
  · rw [if_pos h3] at hd
    have h1' := beq_if h1
    have h2' := beq_if h2
    have h3' := beq_it h3
    have HD := hide hd
    clear hd h1 h2 h3
    go_enter Try.func34, Try.ntmps34
    go_wp2_with fail
    go_ret
    exact ⟨ret_int HD.out.symm, rfl⟩
  rw [if_neg h3] at hd
  by_cases h4 : (x.toNat : Int) = 91
  · rw [if_pos h4] at hd
    have h1' := beq_if h1
    have h2' := beq_if h2
    have h3' := beq_if h3
    have h4' := beq_it h4
    have HD := hide hd
    clear hd h1 h2 h3 h4
    go_enter Try.func34, Try.ntmps34
    go_wp2_with fail
    go_ret
    exact ⟨ret_int HD.out.symm, rfl⟩
  rw [if_neg h4] at hd
  by_cases h5 : (x.toNat : Int) = 93
  · rw [if_pos h5] at hd
    have h1' := beq_if h1
    have h2' := beq_if h2
    have h3' := beq_if h3
    have h4' := beq_if h4
    have h5' := beq_it h5
    have HD := hide hd
    clear hd h1 h2 h3 h4 h5
    go_enter Try.func34, Try.ntmps34
    go_wp2_with fail
    go_ret
    exact ⟨ret_int HD.out.symm, rfl⟩
  rw [if_neg h5] at hd
  have h1' := beq_if h1
  have h2' := beq_if h2
  have h3' := beq_if h3
  have h4' := beq_if h4
  have h5' := beq_if h5
  have HD := hide hd
  clear hd h1 h2 h3 h4 h5
  go_enter Try.func34, Try.ntmps34
  go_wp2_with fail
  go_ret
  exact ⟨ret_int HD.out.symm, rfl⟩

theorem beg_at (b : ByteArray) (k : Nat) (h : k < b.size) : Lib.hasPrefix ((T b).drop k) [47, 42] = (((b[k].toNat : Int) == 47) && (if h2 : k + 1 < b.size then ((b[k + 1].toNat : Int) == 42) else false)) := by
  rw [T_drop b k h]
  unfold Lib.hasPrefix
  have e1 : ((47 : UInt8) == b[k]) = ((b[k].toNat : Int) == 47) := by
    rw [Bool.eq_iff_iff, beq_iff_eq, beq_iff_eq]; exact eq_comm.trans (u8_int b[k] 47 (by omega))
  by_cases h2 : k + 1 < b.size
  · rw [T_drop b (k + 1) h2, dif_pos h2]
    have e2 : ((42 : UInt8) == b[k + 1]) = ((b[k + 1].toNat : Int) == 42) := by
      rw [Bool.eq_iff_iff, beq_iff_eq, beq_iff_eq]; exact eq_comm.trans (u8_int b[k + 1] 42 (by omega))
    simp [List.isPrefixOf, e1, e2]
  · rw [dif_neg h2, List.drop_eq_nil_of_le (by rw [T_len]; omega)]
    simp [List.isPrefixOf]
theorem begins_any (b : ByteArray) (k : Nat) (w : World) (h : k < b.size) (hs : b.size ≤ 65536) :
    Calls Try.prog 31 #[.string b, .int .i64 k] w fun e w' => e = .returned (.bool (Lib.hasPrefix ((T b).drop k) [47, 42])) ∧ w = w' := by
  have hd := beg_at b k h
  by_cases h2 : k + 1 < b.size
  · rw [dif_pos h2] at hd
    cases h1 : ((b[k].toNat : Int) == 47)
    · rw [h1] at hd
      have HD := hide hd
      clear hd
      go_enter Try.func31, Try.ntmps31
      go_wp2_with fail
      go_ret
      exact ⟨ret_bool (by rw [HD.out]; rfl), rfl⟩
    · rw [h1] at hd
      have HD := hide hd
      clear hd
      go_enter Try.func31, Try.ntmps31
      go_wp2_with fail
      go_ret
      exact ⟨ret_bool (by rw [HD.out]; rfl), rfl⟩
  · rw [dif_neg h2, Bool.and_false] at hd
    have HD := hide hd
    clear hd
    go_enter Try.func31, Try.ntmps31
    go_wp2_with fail
    go_ret
    exact ⟨ret_bool HD.out.symm, rfl⟩
end Go.Proofs.Ytihmmmodimionaa.Lx
namespace Go.Proofs.Ytihmmmodimionaa.Lx
open Go.RowKit

def cl34 : List UInt8 → Int → Int
  | [], _ => -1
  | x :: xs, k => if x = 10 then -1 else if x = 34 then k + 1 else cl34 xs (k + 1)
def clC : List UInt8 → Int → Int
  | [], _ => -1
  | [_], _ => -1
  | x :: y :: r, k => if x = 42 ∧ y = 47 then k + 2 else clC (y :: r) (k + 1)
theorem cl34_eq : ∀ (s : List UInt8) (k : Int), cl34 s k = if Lib.indexAny s [34, 10] < 0 ∨ s.getD (Lib.indexAny s [34, 10]).toNat 0 = 10 then -1 else k + Lib.indexAny s [34, 10] + 1 := by
  intro s
  induction s with
  | nil => intro k; rfl
  | cons x xs ih =>
    intro k
    by_cases h1 : x = 10
    · subst h1; simp [cl34, Lib.indexAny]
    by_cases h2 : x = 34
    · subst h2; simp [cl34, Lib.indexAny]
    have hc : ([34, 10] : List UInt8).contains x = false := by simp [h1, h2]
    have hge := Lib.indexAny_ge [34, 10] xs
    rw [cl34, if_neg h1, if_neg h2, ih (k + 1), Lib.indexAny, hc]
    simp only [Bool.false_eq_true, if_false]
    by_cases h3 : Lib.indexAny xs [34, 10] = -1
    · rw [h3]; simp
    · have h4 : ¬ (Lib.indexAny xs [34, 10] == -1) = true := by simpa using h3
      rw [if_neg h4]
      have h5 : (Lib.indexAny xs [34, 10] + 1).toNat = (Lib.indexAny xs [34, 10]).toNat + 1 := by omega
      rw [h5, List.getD_cons_succ]
      have h6 : (Lib.indexAny xs [34, 10] < 0) ↔ (Lib.indexAny xs [34, 10] + 1 < 0) := by omega
      simp only [h6]
      split
      · rfl
      · omega
theorem clC_eq : ∀ (s : List UInt8) (k : Int), clC s k = if Lib.index s [42, 47] < 0 then -1 else k + Lib.index s [42, 47] + 2 := by
  intro s
  induction s with
  | nil => intro k; rfl
  | cons x xs ih =>
    intro k
    cases xs with
    | nil => simp [clC, Lib.index, List.isPrefixOf]
    | cons y r =>
      have hge := Lib.index_ge (y :: r) [42, 47]
      rw [Lib.index]
      by_cases h : x = 42 ∧ y = 47
      · obtain ⟨rfl, rfl⟩ := h
        rw [clC]; simp
      · rw [clC, if_neg h, ih (k + 1)]
        have hp : ([42, 47] : List UInt8).isPrefixOf (x :: y :: r) = false := by
          have e1 : (42 == x) = true ↔ x = 42 := by rw [beq_iff_eq]; exact eq_comm
          have e2 : (47 == y) = true ↔ y = 47 := by rw [beq_iff_eq]; exact eq_comm
          rw [Bool.eq_false_iff]
          intro hh
          simp only [List.isPrefixOf, Bool.and_true, Bool.and_eq_true] at hh
          exact h ⟨e1.1 hh.1, e2.1 hh.2⟩
        rw [hp]
        simp only [Bool.false_eq_true, if_false]
        by_cases h3 : Lib.index (y :: r) [42, 47] = -1
        · rw [h3]; simp
        · have h4 : ¬ (Lib.index (y :: r) [42, 47] == -1) = true := by simpa using h3
          rw [if_neg h4]
          have h6 : (Lib.index (y :: r) [42, 47] < 0) ↔ (Lib.index (y :: r) [42, 47] + 1 < 0) := by omega
          simp only [h6]
          split
          · rfl
          · omega

/-- where a quoted word that begins at byte i ends -/
theorem closed_q (b : ByteArray) (i : Nat) (w : World) (hi : i < b.size) (hs : b.size ≤ 65536) (hx : (b[i].toNat : Int) = 34) :
    Calls Try.prog 32 #[.string b, .int .i64 i] w fun e w' => e = .returned (.int .i64 (cl34 ((T b).drop (i + 1)) (i + 1))) ∧ w = w' := by
  have hx1 := beq_it hx
  clear hx
  go_enter Try.func32, Try.ntmps32
  go_wp2_with fail
  go_loop [5] (fun j => ∃ k : Nat, k ≤ b.size ∧ j = .int .i64 k ∧ cl34 ((T b).drop (i + 1)) (i + 1) = cl34 ((T b).drop k) k) (fun j => b.size - (intOf j).toNat)
  case atStart => exact ⟨i + 1, by omega, by go_num, rfl⟩
  case round =>
    obtain ⟨k, hk, rfl, hf⟩ := hrel
    by_cases hlt : k < b.size
    · rw [T_drop b k hlt, cl34] at hf
      by_cases h1 : b[k] = 10
      · rw [if_pos h1] at hf
        have h1' : ((b[k].toNat : Int) == 10) = true := beq_it ((u8_int b[k] 10 (by omega)).1 h1)
        have HF := hide hf
        clear hf h1
        go_wp2_with fail
        go_ret
        exact ⟨ret_int HF.out.symm, rfl⟩
      · rw [if_neg h1] at hf
        have h1' : ((b[k].toNat : Int) == 10) = false := beq_if (fun e => h1 ((u8_int b[k] 10 (by omega)).2 e))
        by_cases h2 : b[k] = 34
        · rw [if_pos h2] at hf
          have h2' : ((b[k].toNat : Int) == 34) = true := beq_it ((u8_int b[k] 34 (by omega)).1 h2)
          have HF := hide hf
          clear hf h1 h2
          go_wp2_with fail
          go_ret
          exact ⟨ret_int (by rw [HF.out]), rfl⟩
        · rw [if_neg h2] at hf
          have h2' : ((b[k].toNat : Int) == 34) = false := beq_if (fun e => h2 ((u8_int b[k] 34 (by omega)).2 e))
          have HF := hide hf
          clear hf h1 h2
          go_wp2_with fail
          go_round
          case rel => exact ⟨k + 1, by omega, by go_num, by rw [HF.out]; rfl⟩
          case measure => simp [intOf]; omega
    · rw [List.drop_eq_nil_of_le (i := k) (by rw [T_len]; omega), cl34] at hf
      have HF := hide hf
      clear hf
      go_wp2_with fail
      go_ret
      exact ⟨ret_int HF.out.symm, rfl⟩
theorem clC_at (b : ByteArray) (k : Nat) (h : k + 1 < b.size) (j : Int) : clC ((T b).drop k) j = if b[k] = 42 ∧ b[k + 1] = 47 then j + 2 else clC ((T b).drop (k + 1)) (j + 1) := by
  rw [T_drop b k (by omega), T_drop b (k + 1) h, clC]
theorem clC_end (b : ByteArray) (k : Nat) (h : ¬ k + 1 < b.size) (j : Int) : clC ((T b).drop k) j = -1 := by
  by_cases h2 : k < b.size
  · rw [T_drop b k h2, List.drop_eq_nil_of_le (by rw [T_len]; omega), clC]
  · rw [List.drop_eq_nil_of_le (by rw [T_len]; omega), clC]
theorem closed_c (b : ByteArray) (i : Nat) (w : World) (hi : i + 1 < b.size) (hs : b.size ≤ 65536) (hx : ¬ (b[i].toNat : Int) = 34) :
    Calls Try.prog 32 #[.string b, .int .i64 i] w fun e w' => e = .returned (.int .i64 (clC ((T b).drop (i + 2)) (i + 2))) ∧ w = w' := by
  have hx1 := beq_if hx
  clear hx
  go_enter Try.func32, Try.ntmps32
  go_wp2_with fail
  go_loop [6] (fun j => ∃ k : Nat, k ≤ b.size + 1 ∧ j = .int .i64 k ∧ clC ((T b).drop (i + 2)) (i + 2) = clC ((T b).drop k) k) (fun j => b.size + 1 - (intOf j).toNat)
  case atStart => exact ⟨i + 2, by omega, by go_num, rfl⟩
  case round =>
    obtain ⟨k, hk, rfl, hf⟩ := hrel
    by_cases hlt : k + 1 < b.size
    · rw [clC_at b k hlt] at hf
      by_cases h1 : b[k] = 42
      · have h1' : ((b[k].toNat : Int) == 42) = true := beq_it ((u8_int b[k] 42 (by omega)).1 h1)
        by_cases h2 : b[k + 1] = 47
        · have h2' : ((b[k + 1].toNat : Int) == 47) = true := beq_it ((u8_int b[k + 1] 47 (by omega)).1 h2)
          rw [if_pos ⟨h1, h2⟩] at hf
          have HF := hide hf
          clear hf h1 h2
          go_wp2_with fail
          go_ret
          exact ⟨ret_int HF.out.symm, rfl⟩
        · have h2' : ((b[k + 1].toNat : Int) == 47) = false := beq_if (fun e => h2 ((u8_int b[k + 1] 47 (by omega)).2 e))
          rw [if_neg (fun h => h2 h.2)] at hf
          have HF := hide hf
          clear hf h1 h2
          go_wp2_with fail
          go_round
          case rel => exact ⟨k + 1, by omega, by go_num, by rw [HF.out]; rfl⟩
          case measure => simp [intOf]; omega
      · have h1' : ((b[k].toNat : Int) == 42) = false := beq_if (fun e => h1 ((u8_int b[k] 42 (by omega)).2 e))
        rw [if_neg (fun h => h1 h.1)] at hf
        have HF := hide hf
        clear hf h1
        go_wp2_with fail
        go_round
        case rel => exact ⟨k + 1, by omega, by go_num, by rw [HF.out]; rfl⟩
        case measure => simp [intOf]; omega
    · rw [clC_end b k hlt] at hf
      have HF := hide hf
      clear hf
      go_wp2_with fail
      go_ret
      exact ⟨ret_int HF.out.symm, rfl⟩
theorem endB_bits (x : UInt8) : decide ((0 : Int) ≤ Lib.indexByte endB x) = (((x.toNat : Int) == 32) || ((x.toNat : Int) == 10) || ((x.toNat : Int) == 34) || ((x.toNat : Int) == 35) || !(sgn x == 0)) := by
  have e32 : ((x.toNat : Int) == 32) = (x == 32) := by rw [Bool.eq_iff_iff, beq_iff_eq, beq_iff_eq]; exact (u8_int x 32 (by omega)).symm
  have e10 : ((x.toNat : Int) == 10) = (x == 10) := by rw [Bool.eq_iff_iff, beq_iff_eq, beq_iff_eq]; exact (u8_int x 10 (by omega)).symm
  have e34 : ((x.toNat : Int) == 34) = (x == 34) := by rw [Bool.eq_iff_iff, beq_iff_eq, beq_iff_eq]; exact (u8_int x 34 (by omega)).symm
  have e35 : ((x.toNat : Int) == 35) = (x == 35) := by rw [Bool.eq_iff_iff, beq_iff_eq, beq_iff_eq]; exact (u8_int x 35 (by omega)).symm
  rw [e32, e10, e34, e35, sgn_def]
  clear e32 e10 e34 e35
  by_cases a1 : x = 32
  · subst a1; decide
  by_cases a2 : x = 10
  · subst a2; decide
  by_cases a3 : x = 123
  · subst a3; decide
  by_cases a4 : x = 125
  · subst a4; decide
  by_cases a5 : x = 59
  · subst a5; decide
  by_cases a6 : x = 91
  · subst a6; decide
  by_cases a7 : x = 93
  · subst a7; decide
  by_cases a8 : x = 34
  · subst a8; decide
  by_cases a9 : x = 35
  · subst a9; decide
  have n1 : ((32 : UInt8) == x) = false := beq_eq_false_iff_ne.2 (fun h => a1 h.symm)
  have n2 : ((10 : UInt8) == x) = false := beq_eq_false_iff_ne.2 (fun h => a2 h.symm)
  have n3 : ((123 : UInt8) == x) = false := beq_eq_false_iff_ne.2 (fun h => a3 h.symm)
  have n4 : ((125 : UInt8) == x) = false := beq_eq_false_iff_ne.2 (fun h => a4 h.symm)
  have n5 : ((59 : UInt8) == x) = false := beq_eq_false_iff_ne.2 (fun h => a5 h.symm)
  have n6 : ((91 : UInt8) == x) = false := beq_eq_false_iff_ne.2 (fun h => a6 h.symm)
  have n7 : ((93 : UInt8) == x) = false := beq_eq_false_iff_ne.2 (fun h => a7 h.symm)
  have n8 : ((34 : UInt8) == x) = false := beq_eq_false_iff_ne.2 (fun h => a8 h.symm)
  have n9 : ((35 : UInt8) == x) = false := beq_eq_false_iff_ne.2 (fun h => a9 h.symm)
  simp [endB, Lib.indexByte, n1, n2, n3, n4, n5, n6, n7, n8, n9, a1, a2, a3, a4, a5, a6, a7, a8, a9]
theorem isEnd_bits (b : ByteArray) (k : Nat) (h : k < b.size) : isEnd ((T b).drop k) = ((((b[k].toNat : Int) == 32) || ((b[k].toNat : Int) == 10) || ((b[k].toNat : Int) == 34) || ((b[k].toNat : Int) == 35) || !(sgn b[k] == 0)) || Lib.hasPrefix ((T b).drop k) [47, 42]) := by
  rw [isEnd_at b k h, endB_bits]
end Go.Proofs.Ytihmmmodimionaa.Lx
