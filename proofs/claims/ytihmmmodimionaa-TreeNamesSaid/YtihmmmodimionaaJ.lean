import Derived.Test.YtihmmmodimionaaH
import Derived.Test.YtihmmmodimionaaQ
import Derived.Test.YtihmmmodimionaaOD
import Derived.Deep.LoopGhost
import Derived.OneCell
namespace Go.Proofs.Ytihmmmodimionaa.Lx
open Go.RowKit

theorem nonempty_B {b : ByteArray} (h : 0 < b.size) : (!b.toList.isEmpty) = true := by
  rw [ByteArray.toList_eq, show b.data.toList = T b from rfl, T_cons b h]; rfl
theorem empty_B {b : ByteArray} (h : ¬ 0 < b.size) : T b = [] := List.eq_nil_of_length_eq_zero (by rw [T_len]; omega)
theorem adv_sum {b b' : ByteArray} {n : Nat} {l c : Int} (hb : T b' = (T b).drop n) (hn : n ≤ (T b).length) (hl : 1 ≤ l) (hc : 1 ≤ c) (h1 : l + b.size ≤ 70000) (h2 : c + b.size ≤ 70000) :
    b'.size = b.size - n ∧ n ≤ b.size ∧ 1 ≤ (adv ((T b).take n) l c).1 ∧ (adv ((T b).take n) l c).1 + b'.size ≤ 70000 ∧ 1 ≤ (adv ((T b).take n) l c).2 ∧ (adv ((T b).take n) l c).2 + b'.size ≤ 70000 := by
  have hs : b'.size = b.size - n := by rw [size_T b', hb, List.length_drop, T_len]
  rw [T_len] at hn
  have := adv_bd ((T b).take n) l c hl hc
  rw [List.length_take, T_len, Nat.min_eq_left hn] at this
  refine ⟨hs, hn, ?_⟩
  omega
/-- what stands at the head of each round of lex.Tokens: N: the heap when the call began; R: the reader -/
structure TL (s : ByteArray) (w : World) (R : Nat) (g : Nat) (v : Value) (wr : World) (b : ByteArray) (l c : Int) (bs : List BTok) : Prop where
  size : b.size ≤ g
  le : b.size ≤ 65536
  l1 : 1 ≤ l
  l2 : l + b.size ≤ 70000
  c1 : 1 ≤ c
  c2 : c + b.size ≤ 70000
  len : bs.length + b.size ≤ 65536
  ok : ∀ x ∈ T b, x = 10 ∨ (32 ≤ x.toNat ∧ x.toNat ≤ 126)
  own : wr.ownsRow w.heap.size 34 4 v bs.length (bs.flatMap BTok.cells)
  r : RdR wr R b l c
  p : PosR wr w.heap.size 0 0
  bel : Below w.heap.size w wr
  hR : w.heap.size < R
  eq : ∃ f, (T b).length ≤ f ∧ toks (T s).length (T s) 1 1 = appT (bs.map BTok.tok) (toks f (T b) l c)

set_option maxRecDepth 100000 in
set_option maxHeartbeats 1000000 in
theorem tokens_ok (s : ByteArray) (w : World) (hs : (chk (T s)).2.2 = 0) (m : Int) (hm : w.cell? ⟨0, 0, none⟩ = some (.int .i64 m)) :
    Calls Try.prog 8 #[.string s] w (TokOut (tokRes (T s)).1 (tokRes (T s)).2 w) := by
  have hlen := chk_len hs
  rw [T_len] at hlen
  have hok := hide (chk_ok hs)
  have hc := fun o => check_any s (w.alloc o) (by unfold maxLen; omega)
  simp only [hs] at hc
  have HC := hide hc
  have h0 := lt_of_cell hm
  simp only at h0
  have HM := hide hm
  have HS := hide hs
  clear hc hs hm
  go_enter Try.func8, Try.ntmps8
  go_wp2_with fail
  refine (HC.out _).mono ?_; rintro e w1 ⟨rfl, hb1⟩
  have hp1 : PosR w1 w.heap.size 0 0 := heapB hb1 (heap_new w _)
  have hbw : Below w.heap.size w w1 := below_wide (bel_one _ _) hb1
  go_wp2_with fail
  have HTL : Hid (TL s w (w1.heap.size + 1) s.size (.slice none 0 0) ((w1.alloc (Obj.cells #[.int .i64 (chk (T s)).1, .int .i64 (chk (T s)).2.1] 24)).alloc (Obj.cells #[.string s, .int .i64 1, .int .i64 1] 69)) s 1 1 []) := by
    have hsz := hb1.size
    simp only [World.size_alloc] at hsz
    exact ⟨Nat.le_refl _, hlen, by omega, by omega, by omega, by omega, by simpa using hlen, hok.out, World.ownsRow_nil _ _ _ _, heap_new2 _ _ _, heap_old (heap_old hp1), below_wide hbw (bel_two w1 _ _), by omega, _, Nat.le_refl _, (appT_nil _).symm⟩
  clear hp1 hbw hb1 hok HC
  generalize w1.heap.size + 1 = R at *
  generalize ((w1.alloc (Obj.cells #[.int .i64 (chk (T s)).1, .int .i64 (chk (T s)).2.1] 24)).alloc (Obj.cells #[.string s, .int .i64 1, .int .i64 1] 69)) = w2 at *
  go_loopg [7] s.size (fun g v wr => ∃ b l c bs, TL s w R g v wr b l c bs)
  case atStart => exact ⟨_, _, _, _, HTL.out⟩
  case round =>
    clear HTL
    obtain ⟨b, l, c, bs, htl⟩ := hrel
    have r0 := cell_heap (j := 0) htl.r rfl
    have p0 := cell_heap (j := 0) htl.p rfl
    have p1 := cell_heap (j := 1) htl.p rfl
    have fp0 := frozen_heap (j := 0) htl.p
    have fp1 := frozen_heap (j := 1) htl.p
    have HT := hide htl
    clear htl
    by_cases hz : 0 < b.size
    · have hne := nonempty_B hz
      have htne : T b ≠ [] := by rw [T_cons b hz]; simp
      have HTN := hide htne
      have hm1 : wr.cell? ⟨0, 0, none⟩ = some (.int .i64 m) := by rw [HT.out.bel.cell (p := ⟨0, 0, none⟩) h0]; exact HM.out
      have HTK := hide (token_any R b l c wr hz HT.out.le HT.out.l1 (by have := HT.out.l2; omega) HT.out.c1 (by have := HT.out.c2; omega) HT.out.r (by have := HT.out.hR; omega) m hm1 HT.out.ok)
      clear hm1 htne
      have HNE := hide hne
      go_wp2_with fail
      refine HTK.out.mono ?_; rintro e w3 ⟨ho, hpost⟩
      have hp3 := only_heap ho HT.out.p (by have := HT.out.hR; omega)
      have HP3 := hide hp3
      have p0' := fun o => cell_heap (j := 0) (heap_old (p := o) hp3) rfl
      have p1' := fun o => cell_heap (j := 1) (heap_old (p := o) hp3) rfl
      have fp0' := fun o => frozen_heap (j := 0) (heap_old (p := o) hp3)
      have fp1' := fun o => frozen_heap (j := 1) (heap_old (p := o) hp3)
      have HB3 := hide (HT.out.bel.trans (only_below ho (Nat.le_of_lt HT.out.hR) HT.out.bel.size))
      have HO := hide ho
      clear ho hp3 p0 p1 fp0 fp1 hne HTK
      rcases hpost with ⟨herr, rfl⟩ | ⟨herr, tb, b', htb, hb', rfl, hr2⟩
      · have HERR := hide herr
        clear herr
        go_wp2_with fail
        go_region
        go_wp2_with fail
        obtain ⟨f, hf1, hf2⟩ := HT.out.eq
        have hres := tokRes_err HS.out (toks_err hf1 HTN.out hf2 HERR.out)
        refine bodyPost_ret (v := .tuple #[.slice none 0 0, .agg #[.int .i64 l, .int .i64 c], .int .i64 71]) (by simp [results, Try.results8, go_sem, p0', p1']) rfl ?_
        rw [hres]
        exact ⟨_, [], rfl, rfl, World.ownsRow_nil _ _ _ _, (((HB3.out.alloc HB3.out.size _).setCell (p := ⟨w.heap.size, 0, none⟩) (Nat.le_refl _) _).setCell (p := ⟨w.heap.size, 1, none⟩) (Nat.le_refl _) _).drew, by simp⟩
      · have hsn := step_n (T b) HTN.out herr
        obtain ⟨f, hf1, hf2⟩ := HT.out.eq
        have hmore := toks_more hf1 HTN.out hf2 herr hsn.1
        obtain ⟨hs1, hs2, hs3, hs4, hs5, hs6⟩ := adv_sum hb' hsn.2 HT.out.l1 HT.out.c1 HT.out.l2 HT.out.c2
        rw [← hb'] at hmore
        have hown3 := HT.out.own.kept HO.out (.inr (own_ne_row HT.out.own HT.out.r (by decide)))
        have hok' : ∀ x ∈ T b', x = 10 ∨ (32 ≤ x.toNat ∧ x.toNat ≤ 126) := fun x hx => HT.out.ok x (by rw [hb'] at hx; exact List.mem_of_mem_drop hx)
        have hn1 := hsn.1
        have hle1 := HT.out.len
        have hle2 := HT.out.le
        have hgk := HT.out.size
        generalize (adv ((T b).take (step (T b)).n) l c).1 = l' at *
        generalize (adv ((T b).take (step (T b)).n) l c).2 = c' at *
        generalize (step (T b)).n = n at *
        have HMORE := hide hmore
        have HOWN := hide hown3
        have HR2 := hide hr2
        have HOK := hide hok'
        have HTB := hide htb
        clear herr hsn hf1 hf2 f hmore hown3 hr2 hok' htb hb'
        cases his : (step (T b)).is
        · have HIS := hide his
          clear his
          go_wp2_with fail
          go_roundg b'.size
          case measure => omega
          case rel =>
            refine ⟨b', l', c', bs, ⟨Nat.le_refl _, by omega, hs3, hs4, hs5, hs6, by omega, HOK.out, HOWN.out.alloc _, heap_old HR2.out, heap_old HP3.out, HB3.out.alloc HB3.out.size _, HT.out.hR, ?_⟩⟩
            obtain ⟨f', h1, h2⟩ := HMORE.out
            rw [HIS.out] at h2
            exact ⟨f', h1, by rw [h2]; simp⟩
        · have HIS := hide his
          clear his
          obtain ⟨i1, hi1, iz1, is1, ib1⟩ := info_parts infoTok
          generalize hk : (step (T b)).k = k at *
          have HK := hide hk
          clear hk
          have HOWN2 := hide ((HOWN.out.alloc (Obj.cells #[.int .u8 k, .string tb, .int .i64 l, .int .i64 c] 34)).alloc (Obj.cells #[.int .u8 k, .string tb, .int .i64 l, .int .i64 c] 34))
          go_wp2_with (at_builtin; (refine wpList_append_own _ rfl (.tmp 42) (.tmp 44) 22 rfl w.heap.size 34 i1 _ 4 40 Try.underlying22 hi1 iz1 is1 ib1 rfl (by decide) _ bs.length (bs.flatMap BTok.cells) rfl HOWN2.out ⟨w3.heap.size + 1, 0, none⟩ 1 1 [.int .u8 k, .string tb, .int .i64 l, .int .i64 c] rfl rfl ?cells ?ones ?c63 ?cby ?cbase ?_))
          case cells =>
            intro j u hj
            match j, hj with
            | 0, hj => simp at hj; subst hj; simp [Addr.add, go_sem]
            | 1, hj => simp at hj; subst hj; simp [Addr.add, go_sem]
            | 2, hj => simp at hj; subst hj; simp [Addr.add, go_sem]
            | 3, hj => simp at hj; subst hj; simp [Addr.add, go_sem]
            | j + 4, hj => simp at hj
          case ones => simp [Value.oneCell']
          case c63 => unfold maxLen; omega
          case cby => omega
          case cbase => have := HB3.out.size; simp; omega
          intro v' w4 hown' hgrow _
          have HGR := hide hgrow
          have HOW := hide hown'
          clear hgrow hown'
          go_wp2_with fail
          go_roundg b'.size
          case measure => omega
          case rel =>
            have hr1 : RdR ((w3.alloc (Obj.cells #[.int .u8 k, .string tb, .int .i64 l, .int .i64 c] 34)).alloc (Obj.cells #[.int .u8 k, .string tb, .int .i64 l, .int .i64 c] 34)) R b' l' c' := heap_old (heap_old HR2.out)
            have hp1 : PosR ((w3.alloc (Obj.cells #[.int .u8 k, .string tb, .int .i64 l, .int .i64 c] 34)).alloc (Obj.cells #[.int .u8 k, .string tb, .int .i64 l, .int .i64 c] 34)) w.heap.size 0 0 := heap_old (heap_old HP3.out)
            have hsz3 := HB3.out.size
            refine ⟨b', l', c', bs ++ [⟨k, tb, l, c⟩], ⟨Nat.le_refl _, by omega, hs3, hs4, hs5, hs6, by simp; omega, HOK.out, ?_, heap_grown hr1 HGR.out (own_ne_row HOWN2.out hr1 (by decide)), heap_grown hp1 HGR.out (own_ne_row HOWN2.out hp1 (by decide)), ((HB3.out.alloc hsz3 _).alloc (by simp; omega) _).grown HGR.out (by simp; omega) (fun k' hk' => (HOWN2.out.lt k' hk').1), HT.out.hR, ?_⟩⟩
            · have := HOW.out
              simpa [BTok.cells] using this
            · obtain ⟨f', h1, h2⟩ := HMORE.out
              rw [HIS.out] at h2
              exact ⟨f', h1, by rw [h2]; simp [BTok.tok, ← HTB.out]⟩
    · have hbe := empty_B hz
      have hem : (!b.toList.isEmpty) = false := by rw [ByteArray.toList_eq, show b.data.toList = T b from rfl, hbe]; rfl
      obtain ⟨f, hf1, hf2⟩ := HT.out.eq
      rw [hbe, toks_nil] at hf2
      have HR := hide (tokRes_ok HS.out hf2)
      have HEM := hide hem
      clear hem hbe hf1 hf2 f hz
      have hem := HEM.out
      go_wp2_with fail
      refine bodyPost_ret (v := .tuple #[u7, .agg #[.int .i64 0, .int .i64 0], .int .i64 0]) (by simp [results, Try.results8, go_sem, p0, p1]) rfl ?_
      rw [HR.out]
      have hpos := own_ne_row HT.out.own HT.out.p (by decide)
      exact ⟨_, bs, by simp, rfl, ownsRow_setCell_other (ownsRow_setCell_other HT.out.own hpos _) hpos _, ((HT.out.bel.setCell (p := ⟨w.heap.size, 0, none⟩) (Nat.le_refl _) _).setCell (p := ⟨w.heap.size, 1, none⟩) (Nat.le_refl _) _), by have := HT.out.len; omega⟩

set_option maxHeartbeats 1000000 in
theorem tokens_no (s : ByteArray) (w : World) (hs : ¬ (chk (T s)).2.2 = 0) (hlen : s.size ≤ maxLen) :
    Calls Try.prog 8 #[.string s] w (TokOut (tokRes (T s)).1 (tokRes (T s)).2 w) := by
  have HC := hide (fun o => check_any s (w.alloc o) hlen)
  have hne := beq_if hs
  have HS := hide hs
  rw [tokRes_no hs]
  clear hs
  generalize hp : (chk (T s)).1 = p at *
  generalize hq : (chk (T s)).2.1 = q at *
  generalize hr : (chk (T s)).2.2 = r at *
  have HP := hide (show chk (T s) = (p, q, r) by rw [← hp, ← hq, ← hr])
  clear hp hq hr
  go_enter Try.func8, Try.ntmps8
  go_wp2_with fail
  refine (HC.out _).mono ?_; rintro e w1 ⟨rfl, hb1⟩
  have hp1 : PosR w1 w.heap.size 0 0 := heapB hb1 (heap_new w _)
  have hbw : Below w.heap.size w w1 := below_wide (bel_one _ _) hb1
  have q0 := fun o => cell_heap (j := 0) (heap_old (p := o) hp1) rfl
  have q1 := fun o => cell_heap (j := 1) (heap_old (p := o) hp1) rfl
  have f0 := fun o => frozen_heap (j := 0) (heap_old (p := o) hp1)
  have f1 := fun o => frozen_heap (j := 1) (heap_old (p := o) hp1)
  have HB := hide hbw
  clear hp1 hbw hb1
  go_wp2_with fail
  go_region
  go_wp2_with fail
  refine bodyPost_ret (v := .tuple #[.slice none 0 0, .agg #[.int .i64 p, .int .i64 q], .int .i64 r]) (by simp [results, Try.results8, go_sem, q0, q1]) rfl ?_
  rw [HP.out]
  exact ⟨_, [], rfl, rfl, World.ownsRow_nil _ _ _ _, (((HB.out.alloc HB.out.size _).setCell (p := ⟨w.heap.size, 0, none⟩) (Nat.le_refl _) _).setCell (p := ⟨w.heap.size, 1, none⟩) (Nat.le_refl _) _).drew, by simp⟩

theorem tokens_any (s : ByteArray) (w : World) (hlen : s.size ≤ maxLen) (m : Int) (hm : w.cell? ⟨0, 0, none⟩ = some (.int .i64 m)) :
    Calls Try.prog 8 #[.string s] w (TokOut (tokRes (T s)).1 (tokRes (T s)).2 w) := by
  by_cases hs : (chk (T s)).2.2 = 0
  · exact tokens_ok s w hs m hm
  · exact tokens_no s w hs hlen
end Go.Proofs.Ytihmmmodimionaa.Lx
