/- What the claim leans on, part 3 of 16: J TB TC TY TZ. -/
import Derived.Deep.AppendLies
import Derived.Deep.LoopGhost
import Derived.OneCell
import Derived.Test.YtihmmmodimionaaWr01
import Derived.Test.YtihmmmodimionaaWr02
namespace Go.Proofs.Ytihmmmodimionaa.Lx
open Go.RowKit

theorem nonempty_B {b : ByteArray} (h : 0 < b.size) : (!b.toList.isEmpty) = true := by
  rw [ByteArray.toList_eq, show b.data.toList = T b from rfl, T_cons b h]; rfl
theorem empty_B {b : ByteArray} (h : ¬ 0 < b.size) : T b = [] := List.eq_nil_of_length_eq_zero (by rw [T_len]; omega)
theorem adv_sum {b b' : ByteArray} {n : Nat} {l c : Int} (hb : T b' = (T b).drop n) (hn : n ≤ (T b).length) (hl : 1 ≤ l) (hc : 1 ≤ c) (h1 : l + b.size ≤ 70000) (h2 : c + b.size ≤ 70000) :
    b'.size = b.size - n ∧ n ≤ b.size ∧ 1 ≤ (adv ((T b).take n) l c).1 ∧ (adv ((T b).take n) l c).1 + b'.size ≤ 70000 ∧ 1 ≤ (adv ((T b).take n) l c).2 ∧ (adv ((T b).take n) l c).2 + b'.size ≤ 70000 := by
  have hs : b'.size = b.size - n := by rw [size_T b', hb, List.length_drop, T_len]
  rw [T_len] at hn
  have := adv_bd ((T b).take n) l c hl hc
  rw [List.length_take, T_len, Nat.min_eq_left hn] at this
  refine ⟨hs, hn, ?_⟩
  omega
/-- what stands at the head of each round of lex.Tokens: N: the heap when the call began; R: the reader -/
structure TL (s : ByteArray) (w : World) (R : Nat) (g : Nat) (v : Value) (wr : World) (b : ByteArray) (l c : Int) (bs : List BTok) : Prop where
  size : b.size ≤ g
  le : b.size ≤ 65536
  l1 : 1 ≤ l
  l2 : l + b.size ≤ 70000
  c1 : 1 ≤ c
  c2 : c + b.size ≤ 70000
  len : bs.length + b.size ≤ 65536
  ok : ∀ x ∈ T b, x = 10 ∨ (32 ≤ x.toNat ∧ x.toNat ≤ 126)
  own : wr.ownsRow w.heap.size 34 4 v bs.length (bs.flatMap BTok.cells)
  r : RdR wr R b l c
  p : PosR wr w.heap.size 0 0
  bel : Below w.heap.size w wr
  hR : w.heap.size < R
  eq : ∃ f, (T b).length ≤ f ∧ toks (T s).length (T s) 1 1 = appT (bs.map BTok.tok) (toks f (T b) l c)

set_option maxRecDepth 100000 in
set_option maxHeartbeats 1000000 in
theorem tokens_ok (s : ByteArray) (w : World) (hs : (chk (T s)).2.2 = 0) (m : Int) (hm : w.cell? ⟨0, 0, none⟩ = some (.int .i64 m)) :
    Calls Try.prog 8 #[.string s] w (TokOut (tokRes (T s)).1 (tokRes (T s)).2 w) := by
  have hlen := chk_len hs
  rw [T_len] at hlen
  have hok := hide (chk_ok hs)
  have hc := fun o => check_any s (w.alloc o) (by unfold maxLen; omega)
  simp only [hs] at hc
  have HC := hide hc
  have h0 := lt_of_cell hm
  simp only at h0
  have HM := hide hm
  have HS := hide hs
  clear hc hs hm
  go_enter Try.func8, Try.ntmps8
  go_wp2_with fail
  refine (HC.out _).mono ?_; rintro e w1 ⟨rfl, hb1⟩
  have hp1 : PosR w1 w.heap.size 0 0 := heapB hb1 (heap_new w _)
  have hbw : Below w.heap.size w w1 := below_wide (bel_one _ _) hb1
  go_wp2_with fail
  have HTL : Hid (TL s w (w1.heap.size + 1) s.size (.slice none 0 0) ((w1.alloc (Obj.cells #[.int .i64 (chk (T s)).1, .int .i64 (chk (T s)).2.1] 24)).alloc (Obj.cells #[.string s, .int .i64 1, .int .i64 1] 69)) s 1 1 []) := by
    have hsz := hb1.size
    simp only [World.size_alloc] at hsz
    exact ⟨Nat.le_refl _, hlen, by omega, by omega, by omega, by omega, by simpa using hlen, hok.out, World.ownsRow_nil _ _ _ _, heap_new2 _ _ _, heap_old (heap_old hp1), below_wide hbw (bel_two w1 _ _), by omega, _, Nat.le_refl _, (appT_nil _).symm⟩
  clear hp1 hbw hb1 hok HC
  generalize w1.heap.size + 1 = R at *
  generalize ((w1.alloc (Obj.cells #[.int .i64 (chk (T s)).1, .int .i64 (chk (T s)).2.1] 24)).alloc (Obj.cells #[.string s, .int .i64 1, .int .i64 1] 69)) = w2 at *
  go_loopg [7] s.size (fun g v wr => ∃ b l c bs, TL s w R g v wr b l c bs)
  case atStart => exact ⟨_, _, _, _, HTL.out⟩
  case round =>
    clear HTL
    obtain ⟨b, l, c, bs, htl⟩ := hrel
    have r0 := cell_heap (j := 0) htl.r rfl
    have p0 := cell_heap (j := 0) htl.p rfl
    have p1 := cell_heap (j := 1) htl.p rfl
    have fp0 := frozen_heap (j := 0) htl.p
    have fp1 := frozen_heap (j := 1) htl.p
    have HT := hide htl
    clear htl
    by_cases hz : 0 < b.size
    · have hne := nonempty_B hz
      have htne : T b ≠ [] := by rw [T_cons b hz]; simp
      have HTN := hide htne
      have hm1 : wr.cell? ⟨0, 0, none⟩ = some (.int .i64 m) := by rw [HT.out.bel.cell (p := ⟨0, 0, none⟩) h0]; exact HM.out
      have HTK := hide (token_any R b l c wr hz HT.out.le HT.out.l1 (by have := HT.out.l2; omega) HT.out.c1 (by have := HT.out.c2; omega) HT.out.r (by have := HT.out.hR; omega) m hm1 HT.out.ok)
      clear hm1 htne
      have HNE := hide hne
      go_wp2_with fail
      refine HTK.out.mono ?_; rintro e w3 ⟨ho, hpost⟩
      have hp3 := only_heap ho HT.out.p (by have := HT.out.hR; omega)
      have HP3 := hide hp3
      have p0' := fun o => cell_heap (j := 0) (heap_old (p := o) hp3) rfl
      have p1' := fun o => cell_heap (j := 1) (heap_old (p := o) hp3) rfl
      have fp0' := fun o => frozen_heap (j := 0) (heap_old (p := o) hp3)
      have fp1' := fun o => frozen_heap (j := 1) (heap_old (p := o) hp3)
      have HB3 := hide (HT.out.bel.trans (only_below ho (Nat.le_of_lt HT.out.hR) HT.out.bel.size))
      have HO := hide ho
      clear ho hp3 p0 p1 fp0 fp1 hne HTK
      rcases hpost with ⟨herr, rfl⟩ | ⟨herr, tb, b', htb, hb', rfl, hr2⟩
      · have HERR := hide herr
        clear herr
        go_wp2_with fail
        go_region
        go_wp2_with fail
        obtain ⟨f, hf1, hf2⟩ := HT.out.eq
        have hres := tokRes_err HS.out (toks_err hf1 HTN.out hf2 HERR.out)
        refine bodyPost_ret (v := .tuple #[.slice none 0 0, .agg #[.int .i64 l, .int .i64 c], .int .i64 71]) (by simp [results, Try.results8, go_sem, p0', p1']) rfl ?_
        rw [hres]
        exact ⟨_, [], rfl, rfl, World.ownsRow_nil _ _ _ _, (((HB3.out.alloc HB3.out.size _).setCell (p := ⟨w.heap.size, 0, none⟩) (Nat.le_refl _) _).setCell (p := ⟨w.heap.size, 1, none⟩) (Nat.le_refl _) _).drew, by simp⟩
      · have hsn := step_n (T b) HTN.out herr
        obtain ⟨f, hf1, hf2⟩ := HT.out.eq
        have hmore := toks_more hf1 HTN.out hf2 herr hsn.1
        obtain ⟨hs1, hs2, hs3, hs4, hs5, hs6⟩ := adv_sum hb' hsn.2 HT.out.l1 HT.out.c1 HT.out.l2 HT.out.c2
        rw [← hb'] at hmore
        have hown3 := HT.out.own.kept HO.out (.inr (own_ne_row HT.out.own HT.out.r (by decide)))
        have hok' : ∀ x ∈ T b', x = 10 ∨ (32 ≤ x.toNat ∧ x.toNat ≤ 126) := fun x hx => HT.out.ok x (by rw [hb'] at hx; exact List.mem_of_mem_drop hx)
        have hn1 := hsn.1
        have hle1 := HT.out.len
        have hle2 := HT.out.le
        have hgk := HT.out.size
        generalize (adv ((T b).take (step (T b)).n) l c).1 = l' at *
        generalize (adv ((T b).take (step (T b)).n) l c).2 = c' at *
        generalize (step (T b)).n = n at *
        have HMORE := hide hmore
        have HOWN := hide hown3
        have HR2 := hide hr2
        have HOK := hide hok'
        have HTB := hide htb
        clear herr hsn hf1 hf2 f hmore hown3 hr2 hok' htb hb'
        cases his : (step (T b)).is
        · have HIS := hide his
          clear his
          go_wp2_with fail
          go_roundg b'.size
          case measure => omega
          case rel =>
            refine ⟨b', l', c', bs, ⟨Nat.le_refl _, by omega, hs3, hs4, hs5, hs6, by omega, HOK.out, HOWN.out.alloc _, heap_old HR2.out, heap_old HP3.out, HB3.out.alloc HB3.out.size _, HT.out.hR, ?_⟩⟩
            obtain ⟨f', h1, h2⟩ := HMORE.out
            rw [HIS.out] at h2
            exact ⟨f', h1, by rw [h2]; simp⟩
        · have HIS := hide his
          clear his
          obtain ⟨i1, hi1, iz1, is1, ib1⟩ := info_parts infoTok
          generalize hk : (step (T b)).k = k at *
          have HK := hide hk
          clear hk
          have HOWN2 := hide ((HOWN.out.alloc (Obj.cells #[.int .u8 k, .string tb, .int .i64 l, .int .i64 c] 34)).alloc (Obj.cells #[.int .u8 k, .string tb, .int .i64 l, .int .i64 c] 34))
          go_wp2_with (at_builtin; (refine wpList_append_own _ rfl (.tmp 42) (.tmp 44) 22 rfl w.heap.size 34 i1 _ 4 40 Try.underlying22 hi1 iz1 is1 ib1 rfl (by decide) _ bs.length (bs.flatMap BTok.cells) rfl HOWN2.out ⟨w3.heap.size + 1, 0, none⟩ 1 1 [.int .u8 k, .string tb, .int .i64 l, .int .i64 c] rfl rfl ?cells ?ones ?c63 ?cby ?cbase ?_))
          case cells =>
            intro j u hj
            match j, hj with
            | 0, hj => simp at hj; subst hj; simp [Addr.add, go_sem]
            | 1, hj => simp at hj; subst hj; simp [Addr.add, go_sem]
            | 2, hj => simp at hj; subst hj; simp [Addr.add, go_sem]
            | 3, hj => simp at hj; subst hj; simp [Addr.add, go_sem]
            | j + 4, hj => simp at hj
          case ones => simp [Value.oneCell']
          case c63 => unfold maxLen; omega
          case cby => omega
          case cbase => have := HB3.out.size; simp; omega
          intro v' w4 hown' hgrow _
          have HGR := hide hgrow
          have HOW := hide hown'
          clear hgrow hown'
          go_wp2_with fail
          go_roundg b'.size
          case measure => omega
          case rel =>
            have hr1 : RdR ((w3.alloc (Obj.cells #[.int .u8 k, .string tb, .int .i64 l, .int .i64 c] 34)).alloc (Obj.cells #[.int .u8 k, .string tb, .int .i64 l, .int .i64 c] 34)) R b' l' c' := heap_old (heap_old HR2.out)
            have hp1 : PosR ((w3.alloc (Obj.cells #[.int .u8 k, .string tb, .int .i64 l, .int .i64 c] 34)).alloc (Obj.cells #[.int .u8 k, .string tb, .int .i64 l, .int .i64 c] 34)) w.heap.size 0 0 := heap_old (heap_old HP3.out)
            have hsz3 := HB3.out.size
            refine ⟨b', l', c', bs ++ [⟨k, tb, l, c⟩], ⟨Nat.le_refl _, by omega, hs3, hs4, hs5, hs6, by simp; omega, HOK.out, ?_, heap_grown hr1 HGR.out (own_ne_row HOWN2.out hr1 (by decide)), heap_grown hp1 HGR.out (own_ne_row HOWN2.out hp1 (by decide)), ((HB3.out.alloc hsz3 _).alloc (by simp; omega) _).grown HGR.out (by simp; omega) (fun k' hk' => (HOWN2.out.lt k' hk').1), HT.out.hR, ?_⟩⟩
            · have := HOW.out
              simpa [BTok.cells] using this
            · obtain ⟨f', h1, h2⟩ := HMORE.out
              rw [HIS.out] at h2
              exact ⟨f', h1, by rw [h2]; simp [BTok.tok, ← HTB.out]⟩
    · have hbe := empty_B hz
      have hem : (!b.toList.isEmpty) = false := by rw [ByteArray.toList_eq, show b.data.toList = T b from rfl, hbe]; rfl
      obtain ⟨f, hf1, hf2⟩ := HT.out.eq
      rw [hbe, toks_nil] at hf2
      have HR := hide (tokRes_ok HS.out hf2)
      have HEM := hide hem
      clear hem hbe hf1 hf2 f hz
      have hem := HEM.out
      go_wp2_with fail
      refine bodyPost_ret (v := .tuple #[u7, .agg #[.int .i64 0, .int .i64 0], .int .i64 0]) (by simp [results, Try.results8, go_sem, p0, p1]) rfl ?_
      rw [HR.out]
      have hpos := own_ne_row HT.out.own HT.out.p (by decide)
      exact ⟨_, bs, by simp, rfl, ownsRow_setCell_other (ownsRow_setCell_other HT.out.own hpos _) hpos _, ((HT.out.bel.setCell (p := ⟨w.heap.size, 0, none⟩) (Nat.le_refl _) _).setCell (p := ⟨w.heap.size, 1, none⟩) (Nat.le_refl _) _), by have := HT.out.len; omega⟩

set_option maxHeartbeats 1000000 in
theorem tokens_no (s : ByteArray) (w : World) (hs : ¬ (chk (T s)).2.2 = 0) (hlen : s.size ≤ maxLen) :
    Calls Try.prog 8 #[.string s] w (TokOut (tokRes (T s)).1 (tokRes (T s)).2 w) := by
  have HC := hide (fun o => check_any s (w.alloc o) hlen)
  have hne := beq_if hs
  have HS := hide hs
  rw [tokRes_no hs]
  clear hs
  generalize hp : (chk (T s)).1 = p at *
  generalize hq : (chk (T s)).2.1 = q at *
  generalize hr : (chk (T s)).2.2 = r at *
  have HP := hide (show chk (T s) = (p, q, r) by rw [← hp, ← hq, ← hr])
  clear hp hq hr
  go_enter Try.func8, Try.ntmps8
  go_wp2_with fail
  refine (HC.out _).mono ?_; rintro e w1 ⟨rfl, hb1⟩
  have hp1 : PosR w1 w.heap.size 0 0 := heapB hb1 (heap_new w _)
  have hbw : Below w.heap.size w w1 := below_wide (bel_one _ _) hb1
  have q0 := fun o => cell_heap (j := 0) (heap_old (p := o) hp1) rfl
  have q1 := fun o => cell_heap (j := 1) (heap_old (p := o) hp1) rfl
  have f0 := fun o => frozen_heap (j := 0) (heap_old (p := o) hp1)
  have f1 := fun o => frozen_heap (j := 1) (heap_old (p := o) hp1)
  have HB := hide hbw
  clear hp1 hbw hb1
  go_wp2_with fail
  go_region
  go_wp2_with fail
  refine bodyPost_ret (v := .tuple #[.slice none 0 0, .agg #[.int .i64 p, .int .i64 q], .int .i64 r]) (by simp [results, Try.results8, go_sem, q0, q1]) rfl ?_
  rw [HP.out]
  exact ⟨_, [], rfl, rfl, World.ownsRow_nil _ _ _ _, (((HB.out.alloc HB.out.size _).setCell (p := ⟨w.heap.size, 0, none⟩) (Nat.le_refl _) _).setCell (p := ⟨w.heap.size, 1, none⟩) (Nat.le_refl _) _).drew, by simp⟩

theorem tokens_any (s : ByteArray) (w : World) (hlen : s.size ≤ maxLen) (m : Int) (hm : w.cell? ⟨0, 0, none⟩ = some (.int .i64 m)) :
    Calls Try.prog 8 #[.string s] w (TokOut (tokRes (T s)).1 (tokRes (T s)).2 w) := by
  by_cases hs : (chk (T s)).2.2 = 0
  · exact tokens_ok s w hs m hm
  · exact tokens_no s w hs hlen
end Go.Proofs.Ytihmmmodimionaa.Lx
/- The reader of statements: next, off, fail. -/
namespace Go.Proofs.Ytihmmmodimionaa.Tr
open Go.RowKit Go.Proofs.Ytihmmmodimionaa Go.Proofs.Ytihmmmodimionaa.Lx

def kindT : List BTok → Int
  | [] => 0
  | t :: _ => t.k
theorem TokS.head {w : World} {A : Option Addr} {c : Nat} {t : BTok} {ts : List BTok} (h : TokS w A c (t :: ts)) : ∃ ad, A = some ad ∧ w.cell? ad = some (.int .u8 t.k) ∧ w.cell? ⟨ad.block, ad.off + 1, none⟩ = some (.string t.b) ∧ w.cell? ⟨ad.block, ad.off + 2, none⟩ = some (.int .i64 t.l) ∧ w.cell? ⟨ad.block, ad.off + 3, none⟩ = some (.int .i64 t.c) := by
  obtain ⟨h1, ⟨_, h2, _⟩ | ⟨ad, h2, h3⟩⟩ := h
  · simp at h2
  · exact ⟨ad, h2, h3 0 _ rfl, h3 1 _ rfl, h3 2 _ rfl, h3 3 _ rfl⟩
theorem RdX.below {w w' : World} {p : Nat} {A : Option Addr} {cap : Nat} {ts : List BTok} {e l c : Int} (h : RdX w p A cap ts e l c) (hb : Below w.heap.size w w') : RdX w' p A cap ts e l c := ⟨heapB hb h.h, h.t.below hb, h.lt, h.cp, h.cm, h.kz⟩
set_option maxRecDepth 100000 in
theorem next_any (p : Nat) (A : Option Addr) (cap : Nat) (ts : List BTok) (e l c : Int) (w : World) (h : RdX w p A cap ts e l c) (hl : ts.length ≤ 100000) :
    Calls Try.prog 60 #[.pointer (some ⟨p, 0, none⟩)] w fun e' w' => e' = .returned (.int .u8 (kindT ts)) ∧ w = w' := by
  have p0 := cell_heap (j := 0) h.h rfl
  have ht := h.t
  clear h
  cases ts with
  | nil =>
    clear ht
    go_enter Try.func60, Try.ntmps60
    go_wp2_with fail
    go_ret
    exact ⟨rfl, rfl⟩
  | cons t ts =>
    obtain ⟨ad, rfl, q0, q1, q2, q3⟩ := ht.head
    have d0 : ((0 : Int) < ((ts.length + 1 : Nat) : Int)) := by omega
    have d1 : (((ts.length + 1 : Nat) : Int) == 0) = false := by simp; omega
    have d2 : ((0 : Int) < (ts.length : Int) + 1) := by omega
    have d3 : ((ts.length : Int) + 1 == 0) = false := by simp; omega
    clear ht
    rw [List.length_cons] at p0
    go_enter Try.func60, Try.ntmps60
    go_wp2_with fail
    go_ret
    exact ⟨rfl, rfl⟩
abbrev BTok.val (t : BTok) : Value := .agg #[.int .u8 t.k, .string t.b, .int .i64 t.l, .int .i64 t.c]
def OffOut (p cap : Nat) (t : BTok) (ts : List BTok) (e l c : Int) (w : World) (e' : Ending) (w' : World) : Prop :=
  e' = .returned (BTok.val t) ∧ Only p w w' ∧ ∃ A', RdX w' p A' (cap - 1) ts e l c
set_option maxRecDepth 100000 in
theorem off_any (p : Nat) (A : Option Addr) (cap : Nat) (t : BTok) (ts : List BTok) (e l c : Int) (w : World) (h : RdX w p A cap (t :: ts) e l c) (hl : ts.length ≤ 100000) (hcm : cap ≤ maxLen) :
    Calls Try.prog 62 #[.pointer (some ⟨p, 0, none⟩)] w (OffOut p cap t ts e l c w) := by
  have hp := lt_heap h.h
  obtain ⟨ad, rfl, q0, q1, q2, q3⟩ := h.t.head
  have hadp := h.lt ad rfl
  have p0 := cell_heap (j := 0) h.h rfl
  rw [List.length_cons] at p0
  have HH := hide h
  clear h
  have d0 : ((0 : Int) < ((ts.length + 1 : Nat) : Int)) := by omega
  have d2 : ((0 : Int) < (ts.length : Int) + 1) := by omega
  have hcp : ts.length + 1 ≤ cap := HH.out.cp
  have b0 := fun (o : Obj) => cellB (bel_one w o) q0
  have b1 := fun (o : Obj) => cellB (bel_one w o) q1
  have b2 := fun (o : Obj) => cellB (bel_one w o) q2
  have b3 := fun (o : Obj) => cellB (bel_one w o) q3
  have hsp : ad.spot = none := World.cell?_spot q0
  obtain ⟨bk, of, sp⟩ := ad
  cases hsp
  have f0 := frozen_heap (j := 0) HH.out.h
  have hbp : bk ≠ p := by have : bk < p := hadp; omega
  have fin : ∀ (A' : Option Addr), TokS w A' (cap - 1) ts → (∀ a, A' = some a → a.block = bk) →
      OffOut p cap t ts e l c w (.returned (BTok.val t)) (((w.setCell ⟨p, 0, none⟩ (.slice A' ts.length (cap - 1))).alloc (Obj.cells #[.int .u8 t.k, .string t.b, .int .i64 t.l, .int .i64 t.c] 34)).alloc (Obj.cells #[.int .u8 t.k, .string t.b, .int .i64 t.l, .int .i64 t.c] 34)) := by
    intro A' hA' hb'
    have ho : Only p w (((w.setCell ⟨p, 0, none⟩ (.slice A' ts.length (cap - 1))).alloc (Obj.cells #[.int .u8 t.k, .string t.b, .int .i64 t.l, .int .i64 t.c] 34)).alloc (Obj.cells #[.int .u8 t.k, .string t.b, .int .i64 t.l, .int .i64 t.c] 34)) := only_alloc (only_alloc (only_set (only_refl p w) 0 _) _) _
    refine ⟨rfl, ho, A', ⟨?_, ?_, fun a ha => by rw [hb' a ha]; exact hadp, by omega, by omega, fun x hx => HH.out.kz x (List.mem_cons_of_mem _ hx)⟩⟩
    · have := heap_set (j := 0) (u := .slice A' ts.length (cap - 1)) HH.out.h
      exact heap_old (heap_old this)
    · refine src_keep hA' (fun a ha => ?_)
      have h1 : a.block < w.heap.size := by rw [hb' a ha]; exact Nat.lt_trans hadp hp
      exact ho.block a.block h1 (fun e => by
        injection e with e
        exact hbp (by rw [← hb' a ha, e]))
  have ht4 : TokS w (some ⟨bk, of + 4, none⟩) (cap - 1) ts := by
    obtain ⟨h1, ⟨_, h2, _⟩ | ⟨ad', h2, h3⟩⟩ := HH.out.t
    · simp at h2
    · cases h2
      refine ⟨by rw [flat_len], .inr ⟨_, rfl, fun j u hj => ?_⟩⟩
      have := h3 (j + 4) u (by rw [List.flatMap_cons, List.getElem?_append_right (by simp [BTok.cells])]; simpa [BTok.cells] using hj)
      have e1 : (⟨bk, of, none⟩ : Addr).add (j + 4) = (⟨bk, of + 4, none⟩ : Addr).add j := by
        cases j with
        | zero => rfl
        | succ j => simp [Addr.add]; omega
      rw [← e1]
      exact this
  have FIN := hide fin
  have HT4 := hide ht4
  clear fin ht4
  by_cases hc1 : cap = 1
  · have h0 : ts.length = 0 := by omega
    have hnil := List.eq_nil_of_length_eq_zero h0
    subst hnil
    subst hc1
    have ht0 : TokS w (some ⟨bk, of, none⟩) (1 - 1) [] := ⟨rfl, .inr ⟨_, rfl, fun j u hj => by simp at hj⟩⟩
    have HF := hide (FIN.out _ ht0 (fun a ha => by cases ha; rfl))
    clear ht0
    go_enter Try.func62, Try.ntmps62
    go_wp2_with fail
    refine bodyPost_ret (v := BTok.val t) (by simp [results, Try.results62, go_sem, BTok.val]) rfl ?_
    exact HF.out
  · have HF := hide (FIN.out _ HT4.out (fun a ha => by cases ha; rfl))
    have hcc : (cap == 1) = false := by simpa using hc1
    have hcd : decide (cap = 1) = false := by simpa using hc1
    go_enter Try.func62, Try.ntmps62
    go_wp2_with fail
    refine bodyPost_ret (v := BTok.val t) (by simp [results, Try.results62, go_sem, BTok.val]) rfl ?_
    exact HF.out
theorem only_of {p : Nat} {w w1 w2 : World} (h : Only p w w1) (hb : Below w1.heap.size w1 w2) : Only p w w2 := only_trans h (only_of_below hb)
set_option maxRecDepth 100000 in
theorem fail_any (p : Nat) (A : Option Addr) (cap : Nat) (ts : List BTok) (e l c : Int) (w : World) (h : RdX w p A cap ts 0 0 0) :
    Calls Try.prog 61 #[.pointer (some ⟨p, 0, none⟩), .int .i64 e, .agg #[.int .i64 l, .int .i64 c]] w fun e' w' => e' = .returned (.tuple #[]) ∧ Only p w w' ∧ RdX w' p A cap ts e l c := by
  have hp := lt_heap h.h
  have p1 := cell_heap (j := 1) h.h rfl
  have p2 := cell_heap (j := 2) h.h rfl
  have p3 := cell_heap (j := 3) h.h rfl
  have f1 := frozen_heap (j := 1) h.h
  have f2 := frozen_heap (j := 2) h.h
  have f3 := frozen_heap (j := 3) h.h
  have HH := hide h
  clear h
  go_enter Try.func61, Try.ntmps61
  go_wp2_with fail
  go_region
  go_wp2_with fail
  go_end0
  refine ⟨rfl, only_drew (only_alloc (only_set (only_set (only_set (only_refl p w) 1 _) 2 _) 3 _) _), ?_, ?_, HH.out.lt, HH.out.cp, HH.out.cm, HH.out.kz⟩
  · have h3 := heap_set (j := 3) (u := .int .i64 c) (heap_set (j := 2) (u := .int .i64 l) (heap_set (j := 1) (u := .int .i64 e) HH.out.h))
    exact heap_old (w := ((w.setCell ⟨p, 1, none⟩ (.int .i64 e)).setCell ⟨p, 2, none⟩ (.int .i64 l)).setCell ⟨p, 3, none⟩ (.int .i64 c)) h3
  · refine src_keep HH.out.t (fun a ha => ?_)
    have h1 := HH.out.lt a ha
    exact (only_drew (only_alloc (only_set (only_set (only_set (only_refl p w) 1 _) 2 _) 3 _) _)).block a.block (by omega) (fun e => by injection e with e; omega)
end Go.Proofs.Ytihmmmodimionaa.Tr
/- The reader of statements: words (printed by gen_tc.py). -/
namespace Go.Proofs.Ytihmmmodimionaa.Tr
open Go.RowKit Go.Proofs.Ytihmmmodimionaa Go.Proofs.Ytihmmmodimionaa.Lx

theorem infoS : (Try.prog.info? 9).map (fun i => (i.zero, i.size, i.bytes)) = some (some (.string { data := #[] }), 1, 16) := by kernel_rfl
theorem infoP : (Try.prog.info? 24).map (fun i => (i.zero, i.size, i.bytes)) = some (some (.agg #[.int .i64 0, .int .i64 0]), 2, 16) := by kernel_rfl
theorem row_at {w : World} {g : Nat} {cs : List Value} {t : TypeId} (h : w.heap[g]? = some (.cells cs.toArray t (0, 0))) : ∀ (j : Nat) (u : Value), cs[j]? = some u → w.cell? ((⟨g, 0, none⟩ : Addr).add j) = some u := by
  intro j u hj
  rw [show (⟨g, 0, none⟩ : Addr).add j = ⟨g, j, none⟩ by simp [Addr.add, eq_comm]]
  exact cell_heap h (by simpa using hj)
abbrev NodeC (vw vp : Value) (b : Bool) (vk : Value) : Obj := .cells #[vw, vp, .bool b, vk] 44
abbrev TokC (t : BTok) : Obj := .cells #[.int .u8 t.k, .string t.b, .int .i64 t.l, .int .i64 t.c] 34
/-- the node that is made and the token that was taken -/
structure WS (B D : Nat) (vw vp : Value) (t : BTok) (w : World) : Prop where
  n : w.heap[B]? = some (.cells #[vw, vp, .bool false, .slice none 0 0] 44 (0, 0))
  t : w.heap[D]? = some (.cells #[.int .u8 t.k, .string t.b, .int .i64 t.l, .int .i64 t.c] 34 (0, 0))
theorem WS.alloc {B D : Nat} {vw vp : Value} {t : BTok} {w : World} (h : WS B D vw vp t w) (o : Obj) : WS B D vw vp t (w.alloc o) := ⟨heap_old h.n, heap_old h.t⟩
theorem WS.drew {B D : Nat} {vw vp : Value} {t : BTok} {w : World} (h : WS B D vw vp t w) : WS B D vw vp t w.drew := ⟨h.n, h.t⟩
theorem WS.grow {B D : Nat} {vw vp : Value} {t : BTok} {w w' : World} (h : WS B D vw vp t w) {base size n : Nat} {e : TypeId} {v : Value} {xs : List Value} (ho : w.ownsRow base e size v n xs) (hg : w.grownBy w' v.ownBlock) (h1 : e ≠ 44) (h2 : e ≠ 34) : WS B D vw vp t w' :=
  ⟨heap_grown h.n hg (own_ne_row ho h.n h1), heap_grown h.t hg (own_ne_row ho h.t h2)⟩
/-- words, in the loop -/
structure Wd (p : Nat) (w wr : World) (A : Option Addr) (cap : Nat) (done rest : List BTok) (vw vp : Value) : Prop where
  o : Only p w wr
  n : wr.heap[w.heap.size]? = some (.cells #[vw, vp, .bool false, .slice none 0 0] 44 (0, 0))
  ow : wr.ownsRow w.heap.size 9 1 vw done.length (done.map fun t => .string t.b)
  op : wr.ownsRow w.heap.size 24 2 vp done.length (posC (done.map BTok.pos))
  r : RdX wr p A cap rest 0 0 0
theorem RdX.only {w w' : World} {p : Nat} {A : Option Addr} {cap : Nat} {ts : List BTok} {e l c : Int} (h : RdX w p A cap ts e l c) {row : Option Nat} (hg : w.grownBy w' row) (hr : ∀ b, row = some b → p < b) : RdX w' p A cap ts e l c := by
  have hp := lt_heap h.h
  refine ⟨heap_grown h.h hg (fun e => by have := hr p e; omega), src_keep h.t (fun a ha => ?_), h.lt, h.cp, h.cm, h.kz⟩
  have h1 := h.lt a ha
  exact hg.block a.block (by omega) (fun e => by have := hr _ e.symm; omega)
/-- in the drawn region: what stands at the world x -/
structure Wz (w w3 x : World) (D : Nat) (vw0 vp0 : Value) (t : BTok) (vw : Value) (dw : List BTok) (vp : Value) (dp : List BTok) : Prop where
  b : Below w.heap.size w3 x
  s : WS w.heap.size D vw0 vp0 t x
  ow : x.ownsRow w.heap.size 9 1 vw dw.length (dw.map fun t => .string t.b)
  op : x.ownsRow w.heap.size 24 2 vp dp.length (posC (dp.map BTok.pos))
section
variable {w w3 x x' : World} {D : Nat} {vw0 vp0 vw vp v' : Value} {t : BTok} {dw dp : List BTok}
theorem Wz.size (h : Wz w w3 x D vw0 vp0 t vw dw vp dp) : w.heap.size ≤ x.heap.size := Nat.le_of_lt (lt_heap h.s.n)
theorem Wz.alloc (h : Wz w w3 x D vw0 vp0 t vw dw vp dp) (o : Obj) : Wz w w3 (x.alloc o) D vw0 vp0 t vw dw vp dp := ⟨h.b.alloc h.size o, h.s.alloc o, h.ow.alloc o, h.op.alloc o⟩
theorem Wz.str (h : Wz w w3 x D vw0 vp0 t vw dw vp dp) {n : Nat} (hn : n = dw.length + 1) (ho : x'.ownsRow w.heap.size 9 1 v' n ((dw.map fun t => .string t.b) ++ [.string t.b])) (hg : x.grownBy x' vw.ownBlock) : Wz w w3 x' D vw0 vp0 t v' (dw ++ [t]) vp dp := by
  subst hn
  refine ⟨h.b.grown hg h.size (fun k e => (h.ow.lt k e).1), h.s.grow h.ow hg (by decide) (by decide), by rw [List.length_append, List.map_append]; exact ho, h.op.kept hg ?_⟩
  cases hv : vp.ownBlock with
  | none => exact .inl rfl
  | some g => exact .inr (fun e => own_types h.op h.ow (by decide) g hv e.symm)
theorem Wz.pos (h : Wz w w3 x D vw0 vp0 t vw dw vp dp) {n : Nat} (hn : n = dp.length + 1) (ho : x'.ownsRow w.heap.size 24 2 v' n (posC (dp.map BTok.pos) ++ [.int .i64 t.l, .int .i64 t.c])) (hg : x.grownBy x' vp.ownBlock) : Wz w w3 x' D vw0 vp0 t vw dw v' (dp ++ [t]) := by
  subst hn
  refine ⟨h.b.grown hg h.size (fun k e => (h.op.lt k e).1), h.s.grow h.op hg (by decide) (by decide), h.ow.kept hg ?_, by rw [List.length_append, List.map_append, posC_app]; exact ho⟩
  cases hv : vw.ownBlock with
  | none => exact .inl rfl
  | some g => exact .inr (fun e => own_types h.ow h.op (by decide) g hv e.symm)
theorem Wz.done (h : Wz w w3 x D vw0 vp0 t vw dw vp dw) {p : Nat} {A : Option Addr} {cap : Nat} {rest : List BTok} (hp : p < w.heap.size) (ho : Only p w w3) (hr : RdX w3 p A cap rest 0 0 0) : Wd p w ((x.setCell ⟨w.heap.size, 0, none⟩ vw).setCell ⟨w.heap.size, 1, none⟩ vp) A cap dw rest vw vp := by
  have hb : Below w.heap.size w3 ((x.setCell ⟨w.heap.size, 0, none⟩ vw).setCell ⟨w.heap.size, 1, none⟩ vp) := (h.b.setCell (p := ⟨w.heap.size, 0, none⟩) (Nat.le_refl _) vw).setCell (p := ⟨w.heap.size, 1, none⟩) (Nat.le_refl _) vp
  have hw := own_ne_row h.ow h.s.n (by decide)
  have hp' := own_ne_row h.op h.s.n (by decide)
  refine ⟨⟨hb.os.trans ho.os, hb.tape.trans ho.tape, hb.output.trans ho.output, Nat.le_trans ho.size hb.size, fun i hi hne => ?_⟩, heap_set (j := 1) (u := vp) (heap_set (j := 0) (u := vw) h.s.n), ownsRow_setCell_other (ownsRow_setCell_other h.ow hw _) hw _, ownsRow_setCell_other (ownsRow_setCell_other h.op hp' _) hp' _, ?_, ?_, hr.lt, hr.cp, hr.cm, hr.kz⟩
  · rw [hb.block i hi]
    exact ho.block i hi hne
  · rw [hb.block p hp]
    exact hr.h
  · refine src_keep hr.t (fun a ha => hb.block a.block ?_)
    have := hr.lt a ha
    omega
end
/-- what words hands back -/
def WordsOut (p : Nat) (ts : List BTok) (w : World) (e' : Ending) (w' : World) : Prop :=
  ∃ A cap vw vp, e' = .returned (.agg #[vw, vp, .bool false, .slice none 0 0]) ∧ Wd p w w' A cap (wordsT ts) (behindT ts) vw vp
theorem Wd.back {p : Nat} {w wr : World} {A : Option Addr} {cap : Nat} {done rest : List BTok} {vw vp : Value} (h : Wd p w wr A cap done rest vw vp) (hp : p < w.heap.size) : Wd p w ((((wr.setCell ⟨w.heap.size, 0, none⟩ vw).setCell ⟨w.heap.size, 1, none⟩ vp).setCell ⟨w.heap.size, 2, none⟩ (.bool false)).setCell ⟨w.heap.size, 3, none⟩ (.slice none 0 0)) A cap done rest vw vp := by
  have hB := lt_heap h.n
  have hw := own_ne_row h.ow h.n (by decide)
  have hp' := own_ne_row h.op h.n (by decide)
  have hb : Below w.heap.size wr ((((wr.setCell ⟨w.heap.size, 0, none⟩ vw).setCell ⟨w.heap.size, 1, none⟩ vp).setCell ⟨w.heap.size, 2, none⟩ (.bool false)).setCell ⟨w.heap.size, 3, none⟩ (.slice none 0 0)) :=
    ((((Below.refl _ wr).setCell (p := ⟨w.heap.size, 0, none⟩) (Nat.le_refl _) vw).setCell (p := ⟨w.heap.size, 1, none⟩) (Nat.le_refl _) vp).setCell (p := ⟨w.heap.size, 2, none⟩) (Nat.le_refl _) _).setCell (p := ⟨w.heap.size, 3, none⟩) (Nat.le_refl _) _
  refine ⟨⟨hb.os.trans h.o.os, hb.tape.trans h.o.tape, hb.output.trans h.o.output, Nat.le_trans h.o.size hb.size, fun i hi hne => ?_⟩, ?_, ownsRow_setCell_other (ownsRow_setCell_other (ownsRow_setCell_other (ownsRow_setCell_other h.ow hw _) hw _) hw _) hw _, ownsRow_setCell_other (ownsRow_setCell_other (ownsRow_setCell_other (ownsRow_setCell_other h.op hp' _) hp' _) hp' _) hp' _, ?_, ?_, h.r.lt, h.r.cp, h.r.cm, h.r.kz⟩
  · rw [hb.block i hi]
    exact h.o.block i hi hne
  · exact heap_set (j := 3) (u := .slice none 0 0) (heap_set (j := 2) (u := .bool false) (heap_set (j := 1) (u := vp) (heap_set (j := 0) (u := vw) h.n)))
  · rw [hb.block p hp]
    exact h.r.h
  · refine src_keep h.r.t (fun a ha => hb.block a.block ?_)
    have := h.r.lt a ha
    omega
set_option maxHeartbeats 8000000 in
set_option maxRecDepth 100000 in
theorem words_any (p : Nat) (A : Option Addr) (cap : Nat) (ts : List BTok) (w : World) (h : RdX w p A cap ts 0 0 0) (hl : ts.length ≤ 100000) (hcm : cap ≤ maxLen) :
    Calls Try.prog 81 #[.pointer (some ⟨p, 0, none⟩)] w (WordsOut p ts w) := by
  have hp := lt_heap h.h
  obtain ⟨si, sz0, sz, ss, sb⟩ := info_parts infoS
  obtain ⟨qi, qz0, qz, qs, qb⟩ := info_parts infoP
  have HST : Hid (Wd p w (w.alloc (NodeC (.slice none 0 0) (.slice none 0 0) false (.slice none 0 0))) A cap [] ts (.slice none 0 0) (.slice none 0 0)) := hide ⟨only_alloc (only_refl p w) _, heap_new w _, ⟨rfl, .inl ⟨rfl, rfl⟩⟩, ⟨rfl, .inl ⟨rfl, rfl⟩⟩, h.below (bel_one w _)⟩
  clear h
  go_enter Try.func81, Try.ntmps81
  go_wp2_with fail
  go_loopg [3] ts.length (fun g _ wr => ∃ (A' : Option Addr) (cap' : Nat) (done rest : List BTok) (vw vp : Value), Wd p w wr A' cap' done rest vw vp ∧ rest.length ≤ g ∧ cap' ≤ maxLen ∧ done.length + rest.length ≤ 100000 ∧ wordsT ts = done ++ wordsT rest ∧ behindT ts = behindT rest)
  case atStart => exact ⟨A, cap, [], ts, _, _, HST.out, Nat.le_refl _, hcm, by simpa using hl, rfl, rfl⟩
  case round =>
    clear HST
    obtain ⟨A', cap', done, rest, vw, vp, hX, hg, hcap, hlen, e1, e2⟩ := hrel
    have HX := hide hX
    have HN := hide (next_any p A' cap' rest 0 0 0 wr hX.r (by omega))
    have HE := hide (And.intro e1 e2)
    have n0 := cell_heap (j := 0) hX.n rfl
    have n1 := cell_heap (j := 1) hX.n rfl
    have n2 := cell_heap (j := 2) hX.n rfl
    have n3 := cell_heap (j := 3) hX.n rfl
    clear hX e1 e2
    by_cases hk : kindT rest = 1
    · obtain ⟨t, rest', rfl⟩ : ∃ t r, rest = t :: r := by
        cases rest with
        | nil => simp [kindT] at hk
        | cons t r => exact ⟨t, r, rfl⟩
      have hk1 : t.k = 1 := hk
      rw [hk] at HN
      have HK := hide hk1
      clear hk hk1 n0 n1 n2 n3
      go_wp2_with fail
      refine HN.out.mono ?_
      rintro e w2 ⟨rfl, rfl⟩
      have HOF := hide (off_any p A' cap' t rest' 0 0 0 wr HX.out.r (by simp at hlen; omega) hcap)
      clear HN
      go_wp2_with fail
      refine HOF.out.mono ?_
      rintro e w3 ⟨rfl, ho3, A3, hr3⟩
      have hB : w.heap.size < wr.heap.size := lt_heap HX.out.n
      have hn3 := only_heap ho3 HX.out.n (by omega)
      have how3 := HX.out.ow.kept ho3 (by cases hv : vw.ownBlock with
        | none => exact .inl rfl
        | some g => exact .inr (fun e => by have := (HX.out.ow.lt g hv).1; injection e with e; omega))
      have hop3 := HX.out.op.kept ho3 (by cases hv : vp.ownBlock with
        | none => exact .inl rfl
        | some g => exact .inr (fun e => by have := (HX.out.op.lt g hv).1; injection e with e; omega))
      have HO3 := hide (only_trans HX.out.o ho3)
      have hB3 : w.heap.size < w3.heap.size := Nat.lt_of_lt_of_le hB ho3.size
      have HR3 := hide hr3
      have hws : WS w.heap.size w3.heap.size vw vp t (w3.alloc (TokC t)).drew := ⟨heap_old hn3, heap_new w3 _⟩
      have HWS := hide hws
      have HOW := hide (how3.alloc (TokC t))
      have HOP := hide (hop3.alloc (TokC t))
      have k0 := fun x => cell_heap (j := 0) (pin_in hws x).n rfl
      have k1 := fun x => cell_heap (j := 1) (pin_in hws x).n rfl
      have k2 := fun x => cell_heap (j := 1) (pin_in hws x).t rfl
      have k3 := fun x => cell_heap (j := 2) (pin_in hws x).t rfl
      have k4 := fun x => cell_heap (j := 3) (pin_in hws x).t rfl
      obtain ⟨Aw, cw, rfl⟩ := own_slice how3
      obtain ⟨Ap, cp, rfl⟩ := own_slice hop3
      clear HOF ho3 hn3 how3 hop3 hr3 hws
      go_wp2_with fail
      refine wp_region_tree (WS w.heap.size w3.heap.size (.slice Aw done.length cw) (.slice Ap done.length cp) t) (fun k => ([13, 14, 15] : List Nat).contains k) (.take [0, 1, 2, 3, 6, 7, 8, 9] (.fork 4 (.fork 5 (.take [12] (.step 10 (.step 11 (.step 13 (.step 14 (.step 15 .done)))))) 10 (.step 5 (.take [12] (.step 11 (.step 13 (.step 14 (.step 15 .done))))))) 10 (.step 4 (.step 5 (.take [12] (.step 11 (.step 13 (.step 14 (.step 15 .done))))))))) (by kernel_rfl) (by kernel_rfl) (by kernel_rfl) (by kernel_rfl) (.take (.cons (.zero) (.cons (.succ (.zero)) (.cons (.succ (.succ (.zero))) (.cons (.succ (.succ (.succ (.zero)))) (.cons (.succ (.succ (.succ (.succ (.succ (.succ (.zero))))))) (.cons (.succ (.succ (.succ (.succ (.succ (.succ (.succ (.zero)))))))) (.cons (.succ (.succ (.succ (.succ (.succ (.succ (.succ (.succ (.zero))))))))) (.cons (.succ (.succ (.succ (.succ (.succ (.succ (.succ (.succ (.succ (.zero)))))))))) .nil)))))))) (.fork (.succ (.succ (.succ (.succ (.zero))))) rfl (.fork (.succ (.succ (.succ (.succ (.succ (.zero)))))) rfl (.take (.cons (.succ (.succ (.succ (.succ (.succ (.succ (.succ (.succ (.succ (.succ (.succ (.succ (.zero))))))))))))) .nil) (.step (.succ (.succ (.succ (.succ (.succ (.succ (.succ (.succ (.succ (.succ (.zero))))))))))) rfl (.step (.succ (.succ (.succ (.succ (.succ (.succ (.succ (.succ (.succ (.succ (.succ (.zero)))))))))))) rfl (.step (.succ (.succ (.succ (.succ (.succ (.succ (.succ (.succ (.succ (.succ (.succ (.succ (.succ (.zero)))))))))))))) rfl (.step (.succ (.succ (.succ (.succ (.succ (.succ (.succ (.succ (.succ (.succ (.succ (.succ (.succ (.succ (.zero))))))))))))))) rfl (.step (.succ (.succ (.succ (.succ (.succ (.succ (.succ (.succ (.succ (.succ (.succ (.succ (.succ (.succ (.succ (.zero)))))))))))))))) rfl .done)))))) (.succ (.succ (.succ (.succ (.succ (.succ (.succ (.succ (.succ (.succ (.zero))))))))))) rfl (.step (.succ (.succ (.succ (.succ (.succ (.zero)))))) rfl (.take (.cons (.succ (.succ (.succ (.succ (.succ (.succ (.succ (.succ (.succ (.succ (.succ (.succ (.zero))))))))))))) .nil) (.step (.succ (.succ (.succ (.succ (.succ (.succ (.succ (.succ (.succ (.succ (.succ (.zero)))))))))))) rfl (.step (.succ (.succ (.succ (.succ (.succ (.succ (.succ (.succ (.succ (.succ (.succ (.succ (.succ (.zero)))))))))))))) rfl (.step (.succ (.succ (.succ (.succ (.succ (.succ (.succ (.succ (.succ (.succ (.succ (.succ (.succ (.succ (.zero))))))))))))))) rfl (.step (.succ (.succ (.succ (.succ (.succ (.succ (.succ (.succ (.succ (.succ (.succ (.succ (.succ (.succ (.succ (.zero)))))))))))))))) rfl .done))))))) (.succ (.succ (.succ (.succ (.succ (.succ (.succ (.succ (.succ (.succ (.zero))))))))))) rfl (.step (.succ (.succ (.succ (.succ (.zero))))) rfl (.step (.succ (.succ (.succ (.succ (.succ (.zero)))))) rfl (.take (.cons (.succ (.succ (.succ (.succ (.succ (.succ (.succ (.succ (.succ (.succ (.succ (.succ (.zero))))))))))))) .nil) (.step (.succ (.succ (.succ (.succ (.succ (.succ (.succ (.succ (.succ (.succ (.succ (.zero)))))))))))) rfl (.step (.succ (.succ (.succ (.succ (.succ (.succ (.succ (.succ (.succ (.succ (.succ (.succ (.succ (.zero)))))))))))))) rfl (.step (.succ (.succ (.succ (.succ (.succ (.succ (.succ (.succ (.succ (.succ (.succ (.succ (.succ (.succ (.zero))))))))))))))) rfl (.step (.succ (.succ (.succ (.succ (.succ (.succ (.succ (.succ (.succ (.succ (.succ (.succ (.succ (.succ (.succ (.zero)))))))))))))))) rfl .done))))))))) ?hQ ?hS ?_
      case hQ => exact fun _ _ _ _ _ h => h
      case hS => exact HWS.out
      refine wpT_take ?_
      repeat (first | go_big_quiet_step ((fail)) | quiet_step ((fail)))
      refine wpQuiet_nil ?_
      have HZ := hide (show Wz w w3 (w3.alloc (TokC t)).drew w3.heap.size (.slice Aw done.length cw) (.slice Ap done.length cp) t (.slice Aw done.length cw) done (.slice Ap done.length cp) done from ⟨(((Below.refl _ w3).alloc (Nat.le_of_lt hB3) _).drew), HWS.out, HOW.out, HOP.out⟩)
      clear HWS HOW HOP
      generalize (w3.alloc (TokC t)).drew = x0 at *
      refine wpT_fork ?_ ?_
      · refine wpT_step rfl ?_
        intro K1 hK1
        go_wp2_with fail
        have HZq := hide (HZ.out.alloc (Obj.cells #[.string t.b] 9))
        have HS := hide (heap_new x0 (Obj.cells #[.string t.b] 9))
        refine hK1.out _ _ (fun _ => pin_mem HZq.out.s) ?_
        clear HZ hK1; have HZ := HZq; clear HZq
        generalize hbks : x0.heap.size = bks at *
        generalize x0.alloc (Obj.cells #[.string t.b] 9) = x1 at *
        clear hbks
        refine wpT_fork ?_ ?_
        · refine wpT_step rfl ?_
          intro K1 hK1
          refine wp_append_lies _ (.tmp 10) (.tmp 13) 41 rfl w.heap.size 9 si _ 1 16 Try.underlying41 sz0 sz ss sb rfl (by decide) _ done.length (done.map fun (t : BTok) => Value.string t.b) rfl HZ.out.ow ⟨bks, 0, none⟩ 1 1 [.string t.b] rfl rfl (row_at HS.out) ?ones (by omega) ?c63 ?cby HZ.out.size _ rfl ?_
          case ones => simp [Value.oneCell']
          case c63 => simp at hlen; unfold maxLen; omega
          case cby => simp at hlen; omega
          intro gs cgs x2 hown hgrow _ _
          have HZq := hide (HZ.out.str rfl hown hgrow)
          refine hK1.out _ _ (fun _ => pin_mem HZq.out.s) ?_
          clear HZ hK1 hown hgrow; have HZ := HZq; clear HZq
          refine wpT_take ?_
          repeat (first | go_big_quiet_step ((fail)) | quiet_step ((fail)))
          refine wpQuiet_nil ?_
          refine wpT_step rfl ?_
          intro K1 hK1
          go_wp2_with fail
          have HZq := hide (HZ.out.alloc (Obj.cells #[.int .i64 t.l, .int .i64 t.c] 24))
          have HP := hide (heap_new x2 (Obj.cells #[.int .i64 t.l, .int .i64 t.c] 24))
          refine hK1.out _ _ (fun _ => pin_mem HZq.out.s) ?_
          clear HZ hK1; have HZ := HZq; clear HZq
          generalize hbkp : x2.heap.size = bkp at *
          generalize x2.alloc (Obj.cells #[.int .i64 t.l, .int .i64 t.c] 24) = x3 at *
          clear hbkp
          refine wpT_step rfl ?_
          intro K1 hK1
          refine wp_append_lies _ (.tmp 16) (.tmp 19) 42 rfl w.heap.size 24 qi _ 2 16 Try.underlying42 qz0 qz qs qb rfl (by decide) _ done.length (posC (done.map BTok.pos)) rfl HZ.out.op ⟨bkp, 0, none⟩ 1 1 [.int .i64 t.l, .int .i64 t.c] rfl rfl (row_at HP.out) ?ones (by omega) ?c63 ?cby HZ.out.size _ rfl ?_
          case ones => simp [Value.oneCell']
          case c63 => simp at hlen; unfold maxLen; omega
          case cby => simp at hlen; omega
          intro gp cgp x4 hown hgrow _ _
          have HZq := hide (HZ.out.pos rfl hown hgrow)
          refine hK1.out _ _ (fun _ => pin_mem HZq.out.s) ?_
          clear HZ hK1 hown hgrow; have HZ := HZq; clear HZq
          have hcs := cell_heap (j := 0) HZ.out.s.n rfl
          have hcf := frozen_heap (j := 0) HZ.out.s.n
          refine wpT_step rfl ?_
          intro K1 hK1
          go_wp2_with fail
          refine hK1.out _ _ (fun h => by cases h) ?_
          clear hK1 hcs hcf
          refine wpT_step rfl ?_
          intro K1 hK1
          go_wp2_with fail
          refine hK1.out _ _ (fun h => by cases h) ?_
          clear hK1
          have hn2 := heap_set (j := 0) (u := .slice (some ⟨gs, 0, none⟩) (done.length + 1) cgs) HZ.out.s.n
          have hcs := cell_heap (j := 1) hn2 rfl
          have hcf := frozen_heap (j := 1) hn2
          refine wpT_step rfl ?_
          intro K1 hK1
          go_wp2_with fail
          refine hK1.out _ _ (fun h => by cases h) ?_
          clear hK1 hcs hcf hn2
          refine wpT_done ?_
          have HD := hide (HZ.out.done hp HO3.out HR3.out)
          go_wp2_with fail
          go_roundg rest'.length
          case rel => exact ⟨_, _, done ++ [t], rest', _, _, HD.out, Nat.le_refl _, by omega, by simp at hlen ⊢; omega, by rw [HE.out.1, wordsT, if_pos HK.out]; simp, by rw [HE.out.2, behindT, if_pos HK.out]⟩
          case measure => simp at hg; omega
        · refine wpT_step rfl ?_
          intro K1 hK1
          go_wp2_with fail
          have HZq := hide (HZ.out.alloc (Obj.cells #[.int .i64 t.l, .int .i64 t.c] 24))
          have HP := hide (heap_new x1 (Obj.cells #[.int .i64 t.l, .int .i64 t.c] 24))
          have HSq := hide (heap_old (p := (Obj.cells #[.int .i64 t.l, .int .i64 t.c] 24)) HS.out); clear HS; have HS := HSq; clear HSq
          refine hK1.out _ _ (fun _ => pin_mem HZq.out.s) ?_
          clear HZ hK1; have HZ := HZq; clear HZq
          generalize hbkp : x1.heap.size = bkp at *
          generalize x1.alloc (Obj.cells #[.int .i64 t.l, .int .i64 t.c] 24) = x2 at *
          clear hbkp
          refine wpT_step rfl ?_
          intro K1 hK1
          refine wp_append_lies _ (.tmp 10) (.tmp 13) 41 rfl w.heap.size 9 si _ 1 16 Try.underlying41 sz0 sz ss sb rfl (by decide) _ done.length (done.map fun (t : BTok) => Value.string t.b) rfl HZ.out.ow ⟨bks, 0, none⟩ 1 1 [.string t.b] rfl rfl (row_at HS.out) ?ones (by omega) ?c63 ?cby HZ.out.size _ rfl ?_
          case ones => simp [Value.oneCell']
          case c63 => simp at hlen; unfold maxLen; omega
          case cby => simp at hlen; omega
          intro gs cgs x3 hown hgrow _ _
          have HZq := hide (HZ.out.str rfl hown hgrow)
          have HPq := hide (heap_grown HP.out hgrow (own_ne_row HZ.out.ow HP.out (by decide))); clear HP; have HP := HPq; clear HPq
          refine hK1.out _ _ (fun _ => pin_mem HZq.out.s) ?_
          clear HZ hK1 hown hgrow; have HZ := HZq; clear HZq
          refine wpT_take ?_
          repeat (first | go_big_quiet_step ((fail)) | quiet_step ((fail)))
          refine wpQuiet_nil ?_
          refine wpT_step rfl ?_
          intro K1 hK1
          refine wp_append_lies _ (.tmp 16) (.tmp 19) 42 rfl w.heap.size 24 qi _ 2 16 Try.underlying42 qz0 qz qs qb rfl (by decide) _ done.length (posC (done.map BTok.pos)) rfl HZ.out.op ⟨bkp, 0, none⟩ 1 1 [.int .i64 t.l, .int .i64 t.c] rfl rfl (row_at HP.out) ?ones (by omega) ?c63 ?cby HZ.out.size _ rfl ?_
          case ones => simp [Value.oneCell']
          case c63 => simp at hlen; unfold maxLen; omega
          case cby => simp at hlen; omega
          intro gp cgp x4 hown hgrow _ _
          have HZq := hide (HZ.out.pos rfl hown hgrow)
          refine hK1.out _ _ (fun _ => pin_mem HZq.out.s) ?_
          clear HZ hK1 hown hgrow; have HZ := HZq; clear HZq
          have hcs := cell_heap (j := 0) HZ.out.s.n rfl
          have hcf := frozen_heap (j := 0) HZ.out.s.n
          refine wpT_step rfl ?_
          intro K1 hK1
          go_wp2_with fail
          refine hK1.out _ _ (fun h => by cases h) ?_
          clear hK1 hcs hcf
          refine wpT_step rfl ?_
          intro K1 hK1
          go_wp2_with fail
          refine hK1.out _ _ (fun h => by cases h) ?_
          clear hK1
          have hn2 := heap_set (j := 0) (u := .slice (some ⟨gs, 0, none⟩) (done.length + 1) cgs) HZ.out.s.n
          have hcs := cell_heap (j := 1) hn2 rfl
          have hcf := frozen_heap (j := 1) hn2
          refine wpT_step rfl ?_
          intro K1 hK1
          go_wp2_with fail
          refine hK1.out _ _ (fun h => by cases h) ?_
          clear hK1 hcs hcf hn2
          refine wpT_done ?_
          have HD := hide (HZ.out.done hp HO3.out HR3.out)
          go_wp2_with fail
          go_roundg rest'.length
          case rel => exact ⟨_, _, done ++ [t], rest', _, _, HD.out, Nat.le_refl _, by omega, by simp at hlen ⊢; omega, by rw [HE.out.1, wordsT, if_pos HK.out]; simp, by rw [HE.out.2, behindT, if_pos HK.out]⟩
          case measure => simp at hg; omega
      · refine wpT_step rfl ?_
        intro K1 hK1
        go_wp2_with fail
        have HZq := hide (HZ.out.alloc (Obj.cells #[.int .i64 t.l, .int .i64 t.c] 24))
        have HP := hide (heap_new x0 (Obj.cells #[.int .i64 t.l, .int .i64 t.c] 24))
        refine hK1.out _ _ (fun _ => pin_mem HZq.out.s) ?_
        clear HZ hK1; have HZ := HZq; clear HZq
        generalize hbkp : x0.heap.size = bkp at *
        generalize x0.alloc (Obj.cells #[.int .i64 t.l, .int .i64 t.c] 24) = x1 at *
        clear hbkp
        refine wpT_step rfl ?_
        intro K1 hK1
        go_wp2_with fail
        have HZq := hide (HZ.out.alloc (Obj.cells #[.string t.b] 9))
        have HS := hide (heap_new x1 (Obj.cells #[.string t.b] 9))
        have HPq := hide (heap_old (p := (Obj.cells #[.string t.b] 9)) HP.out); clear HP; have HP := HPq; clear HPq
        refine hK1.out _ _ (fun _ => pin_mem HZq.out.s) ?_
        clear HZ hK1; have HZ := HZq; clear HZq
        generalize hbks : x1.heap.size = bks at *
        generalize x1.alloc (Obj.cells #[.string t.b] 9) = x2 at *
        clear hbks
        refine wpT_step rfl ?_
        intro K1 hK1
        refine wp_append_lies _ (.tmp 10) (.tmp 13) 41 rfl w.heap.size 9 si _ 1 16 Try.underlying41 sz0 sz ss sb rfl (by decide) _ done.length (done.map fun (t : BTok) => Value.string t.b) rfl HZ.out.ow ⟨bks, 0, none⟩ 1 1 [.string t.b] rfl rfl (row_at HS.out) ?ones (by omega) ?c63 ?cby HZ.out.size _ rfl ?_
        case ones => simp [Value.oneCell']
        case c63 => simp at hlen; unfold maxLen; omega
        case cby => simp at hlen; omega
        intro gs cgs x3 hown hgrow _ _
        have HZq := hide (HZ.out.str rfl hown hgrow)
        have HPq := hide (heap_grown HP.out hgrow (own_ne_row HZ.out.ow HP.out (by decide))); clear HP; have HP := HPq; clear HPq
        refine hK1.out _ _ (fun _ => pin_mem HZq.out.s) ?_
        clear HZ hK1 hown hgrow; have HZ := HZq; clear HZq
        refine wpT_take ?_
        repeat (first | go_big_quiet_step ((fail)) | quiet_step ((fail)))
        refine wpQuiet_nil ?_
        refine wpT_step rfl ?_
        intro K1 hK1
        refine wp_append_lies _ (.tmp 16) (.tmp 19) 42 rfl w.heap.size 24 qi _ 2 16 Try.underlying42 qz0 qz qs qb rfl (by decide) _ done.length (posC (done.map BTok.pos)) rfl HZ.out.op ⟨bkp, 0, none⟩ 1 1 [.int .i64 t.l, .int .i64 t.c] rfl rfl (row_at HP.out) ?ones (by omega) ?c63 ?cby HZ.out.size _ rfl ?_
        case ones => simp [Value.oneCell']
        case c63 => simp at hlen; unfold maxLen; omega
        case cby => simp at hlen; omega
        intro gp cgp x4 hown hgrow _ _
        have HZq := hide (HZ.out.pos rfl hown hgrow)
        refine hK1.out _ _ (fun _ => pin_mem HZq.out.s) ?_
        clear HZ hK1 hown hgrow; have HZ := HZq; clear HZq
        have hcs := cell_heap (j := 0) HZ.out.s.n rfl
        have hcf := frozen_heap (j := 0) HZ.out.s.n
        refine wpT_step rfl ?_
        intro K1 hK1
        go_wp2_with fail
        refine hK1.out _ _ (fun h => by cases h) ?_
        clear hK1 hcs hcf
        refine wpT_step rfl ?_
        intro K1 hK1
        go_wp2_with fail
        refine hK1.out _ _ (fun h => by cases h) ?_
        clear hK1
        have hn2 := heap_set (j := 0) (u := .slice (some ⟨gs, 0, none⟩) (done.length + 1) cgs) HZ.out.s.n
        have hcs := cell_heap (j := 1) hn2 rfl
        have hcf := frozen_heap (j := 1) hn2
        refine wpT_step rfl ?_
        intro K1 hK1
        go_wp2_with fail
        refine hK1.out _ _ (fun h => by cases h) ?_
        clear hK1 hcs hcf hn2
        refine wpT_done ?_
        have HD := hide (HZ.out.done hp HO3.out HR3.out)
        go_wp2_with fail
        go_roundg rest'.length
        case rel => exact ⟨_, _, done ++ [t], rest', _, _, HD.out, Nat.le_refl _, by omega, by simp at hlen ⊢; omega, by rw [HE.out.1, wordsT, if_pos HK.out]; simp, by rw [HE.out.2, behindT, if_pos HK.out]⟩
        case measure => simp at hg; omega
    · have hkb : (kindT rest == 1) = false := by simpa using hk
      have e3 : wordsT rest = [] ∧ behindT rest = rest := by
        cases rest with
        | nil => exact ⟨rfl, rfl⟩
        | cons t r =>
          have hk1 : ¬ t.k = 1 := hk
          exact ⟨by rw [wordsT, if_neg hk1], by rw [behindT, if_neg hk1]⟩
      have HF := hide (show Wd p w ((((wr.setCell ⟨w.heap.size, 0, none⟩ vw).setCell ⟨w.heap.size, 1, none⟩ vp).setCell ⟨w.heap.size, 2, none⟩ (.bool false)).setCell ⟨w.heap.size, 3, none⟩ (.slice none 0 0)) A' cap' (wordsT ts) (behindT ts) vw vp from by
        rw [HE.out.1, HE.out.2, e3.1, e3.2, List.append_nil]
        exact HX.out.back hp)
      have g0 := frozen_heap (j := 0) HX.out.n
      have g1 := frozen_heap (j := 1) HX.out.n
      have g2 := frozen_heap (j := 2) HX.out.n
      have g3 := frozen_heap (j := 3) HX.out.n
      obtain ⟨Aw, cw, rfl⟩ := own_slice HX.out.ow
      obtain ⟨Ap, cp, rfl⟩ := own_slice HX.out.op
      clear hk e3
      go_wp2_with fail
      refine HN.out.mono ?_
      rintro e w2 ⟨rfl, rfl⟩
      clear HN HX HE
      go_wp2_with fail
      generalize (((wr.setCell ⟨w.heap.size, 0, none⟩ (.slice Aw done.length cw)).setCell ⟨w.heap.size, 1, none⟩ (.slice Ap done.length cp)).setCell ⟨w.heap.size, 2, none⟩ (.bool false)).setCell ⟨w.heap.size, 3, none⟩ (.slice none 0 0) = wf at *
      have q0 := cell_heap (j := 0) HF.out.n rfl
      have q1 := cell_heap (j := 1) HF.out.n rfl
      have q2 := cell_heap (j := 2) HF.out.n rfl
      have q3 := cell_heap (j := 3) HF.out.n rfl
      refine bodyPost_ret (v := .agg #[.slice Aw done.length cw, .slice Ap done.length cp, .bool false, .slice none 0 0]) (by simp [results, Try.results81, go_sem, q0, q1, q2, q3]) rfl ?_
      exact ⟨A', cap', _, _, rfl, HF.out⟩
end Go.Proofs.Ytihmmmodimionaa.Tr
/- write: what it lays in the builder (printed by gen_ty.py). -/
namespace Go.Proofs.Ytihmmmodimionaa.Tr
open Go.RowKit Go.Proofs.Ytihmmmodimionaa Go.Proofs.Ytihmmmodimionaa.Lx

abbrev Bld (Bx b : Nat) (l : List UInt8) (w : World) : Prop := Lib.IsBuilderF 84 5 Bx b (Lib.byteCells l) w
theorem ownsF_below {w w' : World} {base n size : Nat} {e : TypeId} {v : Value} {xs : List Value} (h : w.ownsRowF base e size v n xs) (hb : Below w.heap.size w w') : w'.ownsRowF base e size v n xs := h.kept (row := none) ⟨hb.os, hb.tape, hb.output, hb.size, fun i hi _ => hb.block i hi⟩ (by
  cases hv : v.ownBlock with
  | none => exact .inl rfl
  | some g => exact .inr (fun e => by cases e))
theorem Bld.below {Bx b : Nat} {l : List UInt8} {w w' : World} (h : Bld Bx b l w) (hb : Below w.heap.size w w') : Bld Bx b l w' := by
  rcases h with ⟨h1, v, h2, h3, h4⟩ | ⟨h1, v, h2, h3, h4⟩
  · exact .inl ⟨h1, v, heapB hb h2, ownsF_below h3 hb, h4⟩
  · exact .inr ⟨h1, v, heapB hb h2, ownsF_below h3 hb, h4⟩
theorem Bld.lt {Bx b : Nat} {l : List UInt8} {w : World} (h : Bld Bx b l w) : b < w.heap.size := by
  rcases h with ⟨h1, v, h2, h3, h4⟩ | ⟨h1, v, h2, h3, h4⟩ <;> exact lt_heap h2
theorem wstr_any {Bx b : Nat} {l : List UInt8} (s : ByteArray) {w : World} (h : Bld Bx b l w) (hlen : l.length + s.size ≤ 140737488355328) (hB : Bx ≤ w.heap.size) :
    Calls Try.prog 66 #[.pointer (some ⟨b, 0, none⟩), .string s] w fun e w' => e = .returned (.tuple #[.int .i64 s.size, .nilIface]) ∧ Bld Bx b (l ++ T s) w' ∧ Below Bx w w' ∧ Lib.OthersKept 5 (some b) w w' := by
  refine (Any.Builder_WriteString_k { Try.lays156 with } Try.Builder_Extra_156 Bx b (Lib.byteCells l) s w h (by rw [Lib.byteCells_length]; exact hlen) hB).mono ?_
  rintro e w' ⟨rfl, h1, h2, h3⟩
  refine ⟨rfl, .inr ?_, h2, h3⟩
  have e : Lib.byteCells (l ++ T s) = Lib.byteCells l ++ Lib.strCells s := by simp [Lib.byteCells, Lib.strCells, T]
  rw [e]
  exact h1
theorem others_row {b k : Nat} {w w' : World} {cs : Array Value} {t : TypeId} {fz : Nat × Nat} (h : Lib.OthersKept 5 (some b) w w') (hk : w.heap[k]? = some (.cells cs t fz)) (hb : k ≠ b) (ht : t ≠ 5) : w'.heap[k]? = some (.cells cs t fz) :=
  h k _ hk (fun e => by injection e with e; exact hb e) (fun c fz' e => by injection e with _ e _; exact ht e)
theorem below_lo {B : Nat} {w x y : World} (h : Below B w x) (h2 : Below x.heap.size x y) (hs : B ≤ x.heap.size) : Below B w y :=
  ⟨h2.os.trans h.os, h2.tape.trans h.tape, h2.output.trans h.output, Nat.le_trans h.size h2.size, fun i hi => (h2.block i (Nat.lt_of_lt_of_le hi hs)).trans (h.block i hi)⟩
theorem below_two {B : Nat} {w x y : World} (h : Below B w x) (h2 : Below B x y) : Below B w y :=
  ⟨h2.os.trans h.os, h2.tape.trans h.tape, h2.output.trans h.output, Nat.le_trans h.size h2.size, fun i hi => (h2.block i hi).trans (h.block i hi)⟩
theorem cell_lo {B : Nat} {w x : World} (h : Below B w x) {a : Addr} {v : Value} (hb : a.block < B) (hc : w.cell? a = some v) : x.cell? a = some v := (cell_block (h.block _ hb)).trans hc
theorem own_belwt {x x' : World} {base n size : Nat} {e : TypeId} {v : Value} {xs : List Value} (h : x.ownsRow base e size v n xs) (hb : Below x.heap.size x x') : x'.ownsRow base e size v n xs := h.kept (row := none) ⟨hb.os, hb.tape, hb.output, hb.size, fun i hi _ => hb.block i hi⟩ (by
  cases hv : v.ownBlock with
  | none => exact .inl rfl
  | some g => exact .inr (fun e => by cases e))
theorem own_some' {w : World} {base n : Nat} {e : TypeId} {v : Value} {xs : List Value} {size : Nat} (h : w.ownsRow base e size v n xs) (hn : 1 ≤ n) : ∃ g c, v = .slice (some ⟨g, 0, none⟩) n c ∧ base ≤ g ∧ g < w.heap.size := by
  have hl := h.lt
  rcases h.2 with ⟨h1, h2⟩ | ⟨g, cap, cur, h1, h2⟩
  · omega
  · subst h1
    exact ⟨g, cap, rfl, hl g rfl⟩
theorem own_cells' {w : World} {base n g c : Nat} {e : TypeId} {xs : List Value} {size : Nat} (h : w.ownsRow base e size (.slice (some ⟨g, 0, none⟩) n c) n xs) : ∀ j x, xs[j]? = some x → w.cell? ((⟨g, 0, none⟩ : Addr).add j) = some x := by
  intro j x hj
  rcases h.2 with ⟨h1, _⟩ | ⟨g', cap, cur, h1, _, h3, _, _, _, h5⟩
  · cases h1
  · injection h1 with h1
    injection h1 with h1
    injection h1 with h1
    subst h1
    rw [Addr.add_lit]
    refine cell_heap h3 ?_
    have hl : j < n * size := by
      have := (List.getElem?_eq_some_iff.1 hj).1
      rw [h.1] at this
      exact this
    rw [← h5, List.getElem?_take_of_lt hl] at hj
    simpa using hj
theorem own_capq {w : World} {base size n c : Nat} {A : Option Addr} {e : TypeId} {xs : List Value} (h : w.ownsRow base e size (.slice A n c) n xs) : n ≤ c := by
  rcases h.2 with ⟨h1, h2⟩ | ⟨g, cap, cur, h1, _, _, h4, h5, _⟩
  · cases h1; exact Nat.le_refl _
  · cases h1; exact h4
theorem map_data (qs : List (List UInt8)) : (qs.map fun q => (⟨q.toArray⟩ : ByteArray)).map (·.data.toList) = qs := by
  rw [List.map_map]
  conv => rhs; rw [← List.map_id qs]
  exact List.map_congr_left (fun q _ => rfl)
theorem T_append (a b : ByteArray) : T (a ++ b) = T a ++ T b := by simp [T, ByteArray.data_append]
/-- what write hands back -/
def WrOut (Bx b : Nat) (l : List UInt8) (r : Option (List UInt8)) (w : World) (e : Ending) (w' : World) : Prop := Below Bx w w' ∧ match r with
  | some o => e = .returned (.bool true) ∧ Bld Bx b (l ++ o) w'
  | none => e = .returned (.bool false) ∧ ∃ l', Bld Bx b l' w'
/-- write, at the head of a round -/
structure WL (Bx b : Nat) (l : List UInt8) (w wr : World) (d : Nat) (F : Fo) (i : Nat) (R : Fo) (o : List UInt8) (xs : List Value) (D : Nat → Prop) : Prop where
  bl : Below Bx w wr
  bd : Bld Bx b (l ++ o) wr
  fo : FoV w D R (xs.drop (i * 4))
  len : i + R.len = F.len
  nodes : R.nodes ≤ F.nodes
  eq : writeF d F = pre o (writeF d R)
  wt : (l ++ o).length + wtF R ≤ 4398046511104
  wb : WB R
/-- .. in the loop over the words -/
structure WI (w1 wk : World) (va : Value) (qs : List (List UInt8)) (ws : List ByteArray) (k : Nat) : Prop where
  bl : Below w1.heap.size w1 wk
  own : wk.ownsRow w1.heap.size 9 1 va qs.length (qs.map fun q => Value.string ⟨q.toArray⟩)
  eq : quotesT ws = preQ qs (quotesT (ws.drop k))
  len : qs.length = k
theorem drop_fo {w : World} {D : Nat → Prop} {ws : List ByteArray} {ps : List (Int × Int)} {blk : Bool} {K R : Fo} {xs : List Value} {i : Nat} (h : FoV w D (.cons ws ps blk K R) (xs.drop (i * 4))) :
    ∃ vw vp A c ys, xs[i * 4]? = some vw ∧ xs[i * 4 + 1]? = some vp ∧ xs[i * 4 + 2]? = some (.bool blk) ∧ xs[i * 4 + 3]? = some (.slice A K.len c) ∧ StrV w D vw ws ∧ PosV w D vp ps ∧ Src w A K.len c 4 ys ∧ (∀ a, A = some a → D a.block) ∧ FoV w D K ys ∧ FoV w D R (xs.drop ((i + 1) * 4)) := by
  obtain ⟨vw, vp, A, c, ys, xs', e, h1, h2, h3, h4, h5, h6⟩ := h
  have g : ∀ j, xs[i * 4 + j]? = (vw :: vp :: .bool blk :: .slice A K.len c :: xs')[j]? := fun j => by rw [← e, List.getElem?_drop]
  refine ⟨vw, vp, A, c, ys, g 0, g 1, g 2, g 3, h1, h2, h3, h4, h5, ?_⟩
  have : xs.drop ((i + 1) * 4) = xs' := by
    rw [show (i + 1) * 4 = i * 4 + 4 by omega, ← List.drop_drop, e]; rfl
  rw [this]
  exact h6
set_option maxHeartbeats 8000000 in
set_option maxRecDepth 100000 in
theorem write_any (Bx b : Nat) (m : Int) : ∀ (n : Nat) (F : Fo), F.nodes = n → ∀ (d : Nat) (A : Option Addr) (c : Nat) (xs : List Value) (l : List UInt8) (D : Nat → Prop) (w : World), Src w A F.len c 4 xs → FoV w D F xs → (∀ q, D q → q < Bx) → (∀ a, A = some a → a.block < Bx) → Bld Bx b l w → Bx ≤ w.heap.size → d ≤ 32 → l.length + wtF F ≤ 4398046511104 → WB F → 0 < Bx → w.cell? ⟨0, 0, none⟩ = some (.int .i64 m) →
    Calls Try.prog 36 #[.pointer (some ⟨b, 0, none⟩), .slice A F.len c, .int .i64 d] w (WrOut Bx b l (writeF d F) w) := by
  intro n
  induction n using Nat.strongRecOn with
  | _ n ih =>
  intro F hn d A c xs l D w hs hf hD hA hb hBx hd hwt hwb hB0 hm
  obtain ⟨si, sz0, sz, ss, sb⟩ := info_parts infoS
  have HIH := hide ih
  have HS := hide hs
  have HST := hide (show WL Bx b l w w d F 0 F [] xs D from ⟨Below.refl _ _, by simpa using hb, by simpa using hf, by simp, Nat.le_refl _, (pre_nil _).symm, by simpa using hwt, hwb⟩)
  have hlF := len_wt F
  have hFl : F.len ≤ 4398046511104 := by omega
  have HD := hide hD
  have HA := hide hA
  have HM := hide hm
  have HN := hide hn
  clear hs hf hD hA hb hwt hwb hm ih hn hlF
  go_enter Try.func36, Try.ntmps36
  go_wp2_with fail
  go_loopw [17] (fun j wr => ∃ (i : Nat) (R : Fo) (o : List UInt8), j = .int .i64 i ∧ WL Bx b l w wr d F i R o xs D) (fun j _ => F.len - (intOf j).toNat)
  case atStart => exact ⟨0, F, [], rfl, HST.out⟩
  case round =>
    clear HST
    obtain ⟨i, R, o, rfl, hX⟩ := hrel
    have HX := hide hX
    clear hX
    cases R with
    | nil =>
      have hi : i = F.len := by have := HX.out.len; simpa [Fo.len] using this
      have d1 : decide (i < F.len) = false := decide_eq_false (by omega)
      have d1' : decide ((i : Int) < (F.len : Int)) = false := decide_eq_false (by omega)
      clear hi
      go_wp2_with fail
      go_ret
      have he := HX.out.eq
      have e : writeF d F = some o := by rw [he, writeF]; simp [pre]
      rw [e]
      exact ⟨HX.out.bl, rfl, HX.out.bd⟩
    | cons ws ps blk K R =>
      have hlen : i + (R.len + 1) = F.len := HX.out.len
      have d1 : decide (i < F.len) = true := decide_eq_true (by omega)
      have d1' : decide ((i : Int) < (F.len : Int)) = true := decide_eq_true (by omega)
      have d2 : ((i : Int) < (F.len : Int)) := by omega
      obtain ⟨vw, vp, Ak, ck, ys, g0, g1, g2, g3, hvw, hvp, hks, hkA, hkF, hRF⟩ := drop_fo HX.out.fo
      obtain ⟨hsl, ⟨h1, h2, _⟩ | ⟨ad, rfl, hsc⟩⟩ := HS.out
      · omega
      · have hc0 := hsc _ _ g0
        have hc1 := hsc _ _ g1
        have hc2 := hsc _ _ g2
        have hc3 := hsc _ _ g3
        have hadB := HA.out ad rfl
        have hsp : ad.spot = none := by
          obtain ⟨x0, hx0⟩ : ∃ x0, xs[0]? = some x0 := ⟨xs[0]'(by rw [hsl]; omega), List.getElem?_eq_getElem _⟩
          exact World.cell?_spot (hsc 0 x0 hx0)
        obtain ⟨ab, ao, sp⟩ := ad
        cases hsp
        rw [Addr.add_lit] at hc0 hc1 hc2 hc3
        have c0 := cell_lo HX.out.bl (a := ⟨ab, ao + i * 4, none⟩) hadB hc0
        have c1 := cell_lo HX.out.bl (a := ⟨ab, ao + i * 4 + 1, none⟩) hadB (by rw [Nat.add_assoc]; exact hc1)
        have c2 := cell_lo HX.out.bl (a := ⟨ab, ao + i * 4 + 2, none⟩) hadB (by rw [Nat.add_assoc]; exact hc2)
        have c3 := cell_lo HX.out.bl (a := ⟨ab, ao + i * 4 + 3, none⟩) hadB (by rw [Nat.add_assoc]; exact hc3)
        obtain ⟨Aw, cw, rfl, hws, hwB⟩ := hvw
        obtain ⟨Ap, cp, rfl, _, _⟩ := hvp
        have HKS := hide hks
        have HKA := hide hkA
        have HKF := hide hkF
        have HRF := hide hRF
        have HWS := hide hws
        have HWB := hide hwB
        have hno : Fo.nodes (.cons ws ps blk K R) = K.nodes + R.nodes + 1 := rfl
        have HNO := hide (show K.nodes < n ∧ R.nodes ≤ F.nodes from by have h1 := HX.out.nodes; have h2 := HN.out; omega)
        have HWT := hide (show (l ++ o).length + (wsW ws + 300 + wtF K + wtF R) ≤ 4398046511104 from HX.out.wt)
        have HWW := hide (show (∀ w ∈ ws, w.size < 4294967281) ∧ WB K ∧ WB R from HX.out.wb)
        have HLEN := hide hlen
        have hwl : ws.length ≤ wsW ws := by
          have : ∀ l : List ByteArray, l.length ≤ wsW l := fun l => by
            induction l with
            | nil => exact Nat.le_refl _
            | cons a l ih => simp only [wsW, List.length_cons]; omega
          exact this ws
        have hkl : K.len ≤ 4398046511104 := by have h1 := len_wt K; have h2 := HWT.out; omega
        have hwl2 : ws.length ≤ 4398046511104 := by have h2 := HWT.out; omega
        clear hsl hsc g0 g1 g2 g3 hks hkA hkF hRF hws hwB hno hwl hc0 hc1 hc2 hc3 hadB hlen
        rcases Nat.eq_zero_or_pos ws.length with hw0 | hw0
        · have e0 : (ws.length == 0) = true := by simpa using hw0
          have e0' : ((ws.length : Int) == 0) = true := beq_it (by omega)
          have HE := hide (show writeF d F = none from by rw [HX.out.eq, write_bad (.inl hw0)]; rfl)
          have HB1 := hide (fun o => below_lo HX.out.bl (bel_one wr o) (Nat.le_trans hBx HX.out.bl.size))
          have HBD := hide (fun o => HX.out.bd.below (bel_one wr o))
          clear hw0
          go_wp2_with fail
          (try simp only [Exit.inBlock, Exit.then])
          go_ret
          rw [HE.out]
          exact ⟨HB1.out _, rfl, _, HBD.out _⟩
        · have e0 : (ws.length == 0) = false := beq_eq_false_iff_ne.2 (by omega)
          have e0' : ((ws.length : Int) == 0) = false := beq_if (by omega)
          cases blk with
          | false =>
            rcases Nat.eq_zero_or_pos K.len with hk0 | hk0
            · have e1 : decide (0 < K.len) = false := decide_eq_false (by omega)
              have e1' : decide ((0 : Int) < (K.len : Int)) = false := decide_eq_false (by omega)
              have HK0 := hide hk0
              clear hk0
              have HB1 := hide (below_lo HX.out.bl (bel_one wr (Obj.cells #[.slice Aw ws.length cw, .slice Ap ps.length cp, .bool false, .slice Ak K.len ck] 44)) (Nat.le_trans hBx HX.out.bl.size))
              have HBD := hide (HX.out.bd.below (bel_one wr (Obj.cells #[.slice Aw ws.length cw, .slice Ap ps.length cp, .bool false, .slice Ak K.len ck] 44)))
              have HNB := hide (heap_new wr (Obj.cells #[.slice Aw ws.length cw, .slice Ap ps.length cp, .bool false, .slice Ak K.len ck] 44))
              have HSZ := hide (show Bx ≤ wr.heap.size ∧ b < wr.heap.size from ⟨Nat.le_trans hBx HX.out.bl.size, HX.out.bd.lt⟩)
              have HW1 := hide (show (wr.alloc (Obj.cells #[.slice Aw ws.length cw, .slice Ap ps.length cp, .bool false, .slice Ak K.len ck] 44)).heap.size = wr.heap.size + 1 from by simp)
              have HI0 := hide (show WI (wr.alloc (Obj.cells #[.slice Aw ws.length cw, .slice Ap ps.length cp, .bool false, .slice Ak K.len ck] 44)) (wr.alloc (Obj.cells #[.slice Aw ws.length cw, .slice Ap ps.length cp, .bool false, .slice Ak K.len ck] 44)) (.slice none 0 0) [] ws 0 from ⟨Below.refl _ _, ⟨rfl, .inl ⟨rfl, rfl⟩⟩, (preQ_nil _).symm, rfl⟩)
              have HWQ := hide hw0
              clear hw0
              go_wp2_with fail
              generalize wr.alloc (Obj.cells #[.slice Aw ws.length cw, .slice Ap ps.length cp, .bool false, .slice Ak K.len ck] 44) = w1 at *
              go_loopw [9, 47] (fun va j wk => ∃ (k : Nat) (qs : List (List UInt8)), j = .int .i64 k ∧ k ≤ ws.length ∧ WI w1 wk va qs ws k) (fun _ j _ => ws.length - (intOf j).toNat)
              case atStart => exact ⟨0, [], rfl, Nat.zero_le _, HI0.out⟩
              case round =>
                clear HI0
                obtain ⟨k, qs, rfl, hk, hI⟩ := hrel
                obtain rfl : qs.length = k := hI.len
                obtain ⟨Av, cv, rfl⟩ := own_slice hI.own
                have HI := hide hI
                have HBK := hide (below_lo HB1.out hI.bl (by have h1 := HSZ.out.1; have h2 := HW1.out; omega))
                have HDK := hide (HBD.out.below hI.bl)
                have HSK := hide (show Bx ≤ wr.heap.size from by have h1 := HSZ.out.1; have h2 := HW1.out; have h3 := hI.bl.size; omega)
                clear hI
                rcases Nat.lt_or_ge qs.length ws.length with hlt | hge
                · obtain ⟨hsl, ⟨_, h2, _⟩ | ⟨ad, rfl, hsc⟩⟩ := HWS.out
                  · omega
                  · have hcw := hsc qs.length (.string ws[qs.length]) (by rw [List.getElem?_map, List.getElem?_eq_getElem hlt]; rfl)
                    have hsp : ad.spot = none := World.cell?_spot (hsc 0 (.string (ws[0]'(by omega))) (by rw [List.getElem?_map, List.getElem?_eq_getElem]; rfl))
                    have hadB := HD.out _ (HWB.out ad rfl).1
                    obtain ⟨wb, wo, sp⟩ := ad
                    cases hsp
                    rw [Addr.add_lit] at hcw
                    have q0 := cell_lo HBK.out (a := ⟨wb, wo + qs.length, none⟩) hadB hcw
                    have d3 : decide (qs.length < ws.length) = true := decide_eq_true hlt
                    have d3' : decide ((qs.length : Int) < (ws.length : Int)) = true := decide_eq_true (by omega)
                    have d4 : ((qs.length : Int) < (ws.length : Int)) := by omega
                    have HQ := hide (quoted_any ws[qs.length] wr (HWW.out.1 _ (List.getElem_mem hlt)) m (cell_lo HBK.out (a := ⟨0, 0, none⟩) hB0 HM.out))
                    have HDR := hide (show ws.drop qs.length = ws[qs.length] :: ws.drop (qs.length + 1) from List.drop_eq_getElem_cons hlt)
                    have HEQ := hide (show quotesT ws = preQ qs (quotesT (ws[qs.length] :: ws.drop (qs.length + 1))) from by rw [← HDR.out]; exact HI.out.eq)
                    clear hsl hsc hcw hadB
                    generalize ws[qs.length] = wk0 at *
                    cases hq : quoteT (T wk0) with
                    | none =>
                      have hqv : quoteV (T wk0) = .tuple #[.string ⟨#[]⟩, .bool false] := by unfold quoteV; rw [hq]
                      rw [hqv] at HQ
                      have HE := hide (show writeF d F = none from by rw [HX.out.eq, write_noq (quotes_none HEQ.out hq)]; rfl)
                      clear hqv hq
                      go_wp2_with fail
                      refine HQ.out.mono ?_
                      rintro e w2 ⟨rfl, hb2⟩
                      have HB2 := hide (below_lo HBK.out hb2 HSK.out)
                      have HD2 := hide (HDK.out.below hb2)
                      clear hb2
                      go_wp2_with fail
                      (try simp only [Exit.inBlock, Exit.then])
                      go_ret
                      rw [HE.out]
                      exact ⟨HB2.out, rfl, _, HD2.out⟩
                    | some q =>
                      have hqv : quoteV (T wk0) = .tuple #[.string ⟨q.toArray⟩, .bool true] := by unfold quoteV; rw [hq]
                      rw [hqv] at HQ
                      have HE := hide (quotes_some HEQ.out hq)
                      clear hqv hq
                      go_wp2_with fail
                      refine HQ.out.mono ?_
                      rintro e w2 ⟨rfl, hb2⟩
                      have HB2 := hide (below_lo HI.out.bl hb2 HI.out.bl.size)
                      have HO2 := hide ((own_belwt HI.out.own hb2).alloc (Obj.cells #[.string ⟨q.toArray⟩] 9))
                      have HR2 := hide (row_at (heap_new w2 (Obj.cells #[.string ⟨q.toArray⟩] 9)))
                      have HS2 := hide hb2.size
                      clear hb2
                      go_wp2_with (at_builtin; go_must (refine wpList_append_own_at _ rfl (.tmp 58) (.tmp 60) 41 rfl w1.heap.size 9 si _ 1 16 Try.underlying41 sz0 sz ss sb rfl (by decide) _ _ _ rfl HO2.out ⟨w2.heap.size, 0, none⟩ 1 1 [.string ⟨q.toArray⟩] rfl rfl HR2.out ?ones ?c63 ?cby ?cbase ?_))
                      case ones => simp [Value.oneCell']
                      case c63 => unfold maxLen; omega
                      case cby => omega
                      case cbase => have h1 := HI.out.bl.size; have h2 := HS2.out; simp; omega
                      intro v' w4 hown hgr _ hk2
                      have HI4 := hide (show WI w1 w4 v' (qs ++ [q]) ws (qs.length + 1) from ⟨(HB2.out.alloc HB2.out.size _).grown hgr (by have := HB2.out.size; simp; omega) (fun g e => (HO2.out.lt g e).1), by rw [List.length_append, List.map_append]; exact hown, HE.out, by simp⟩)
                      have HLT := hide hlt
                      clear hown hgr hk2
                      go_wp2_with fail
                      go_roundw
                      case rel => exact ⟨qs.length + 1, _, by go_num, HLT.out, HI4.out⟩
                      case measure => have := HLT.out; simp [intOf]; omega
                · have hkk : qs.length = ws.length := by omega
                  have d3 : decide (qs.length < ws.length) = false := decide_eq_false (by omega)
                  have d3' : decide ((qs.length : Int) < (ws.length : Int)) = false := decide_eq_false (by omega)
                  have hqs : quotesT ws = some qs := by
                    rw [HI.out.eq, hkk, List.drop_length, quotesT]; simp [preQ]
                  have HQS := hide hqs
                  obtain ⟨gq, cq, hvq, hgq1, hgq2⟩ := own_some' HI.out.own (by have h1 := HWQ.out; have h2 := HI.out.len; omega)
                  simp only [Value.slice.injEq, true_and] at hvq
                  obtain ⟨rfl, rfl⟩ := hvq
                  have HJL := hide (Nat.le_trans (join_le qs) (quotes_len ws qs hqs).2)
                  have HN0 := hide (heapB HI.out.bl HNB.out)
                  have HQL := hide hk
                  have HQC := hide (own_cells' HI.out.own)
                  have HRP := hide (Try.strings_Repeat ⟨#[32, 32, 32, 32]⟩ d wr (by omega) (by show 4 * d ≤ _; omega))
                  have hre : (Lib.repeatL (⟨#[32, 32, 32, 32]⟩ : ByteArray).data.toList d) = indT d := repeat_ind d
                  rw [hre] at HRP
                  generalize hbi : (⟨(indT d).toArray⟩ : ByteArray) = bi at HRP
                  have hTi : T bi = indT d := by rw [← hbi]; rfl
                  have hsi : bi.size ≤ 128 := by rw [← T_len, hTi]; simp [indT]; omega
                  have HTI := hide hTi
                  clear hbi hTi
                  have HCV := hide (own_capq HI.out.own)
                  clear hqs hre hkk hk hge
                  go_wp2_with fail
                  refine HRP.out.mono ?_
                  rintro e w5 ⟨rfl, hb5⟩
                  have HB5 := hide (below_lo HBK.out hb5 HSK.out)
                  have HD5 := hide (HDK.out.below hb5)
                  have HN5 := hide (heapB hb5 HN0.out)
                  have HS5 := hide (Nat.le_trans HSK.out hb5.size)
                  have HJ := hide (Try.strings_Join gq 0 cv (qs.map fun q => (⟨q.toArray⟩ : ByteArray)) ⟨#[32]⟩ w5 (by
                    intro j x hj
                    rw [List.getElem?_map] at hj
                    obtain ⟨q, hq, rfl⟩ := Option.map_eq_some_iff.1 hj
                    have := HQC.out j (.string ⟨q.toArray⟩) (by rw [List.getElem?_map, hq]; rfl)
                    rw [Addr.add_lit] at this
                    exact cellB hb5 this) (Nat.lt_of_lt_of_le hgq2 hb5.size) (by rw [List.length_map]; have h1 := HQL.out; omega) (by rw [List.length_map]; exact HCV.out) (by
                    have h1 := HJL.out
                    have h2 := HWT.out
                    rw [map_data]
                    show (Lib.join qs [32]).length ≤ _
                    omega))
                  rw [map_data, show (⟨#[32]⟩ : ByteArray).data.toList = [32] from rfl, List.length_map] at HJ
                  generalize hbj : (⟨(Lib.join qs [32]).toArray⟩ : ByteArray) = bj at HJ
                  have hTj : T bj = Lib.join qs [32] := by rw [← hbj]; rfl
                  have hsj : bj.size ≤ wsW ws := by rw [← T_len, hTj]; exact HJL.out
                  have hww : wsW ws ≤ 4398046511104 := by have := HWT.out; omega
                  have HTJ := hide hTj
                  clear hbj hTj
                  clear hb5 HRP
                  go_wp2_with fail
                  refine HJ.out.mono ?_
                  rintro e w6 ⟨rfl, hb6⟩
                  have HB6 := hide (below_lo HB5.out hb6 HS5.out)
                  have HD6 := hide (HD5.out.below hb6)
                  have HN6 := hide (heapB hb6 HN5.out)
                  have HS6 := hide (Nat.le_trans HS5.out hb6.size)
                  have HWR := hide (wstr_any (bi ++ bj) HD6.out (by rw [ByteArray.size_append]; have h2 := HWT.out; omega) HS6.out)
                  rw [T_append, HTI.out, HTJ.out] at HWR
                  clear hb6 HJ
                  go_wp2_with fail
                  refine HWR.out.mono ?_
                  rintro e w7 ⟨rfl, hd7, hb7, ho7⟩
                  have HB7 := hide (below_two HB6.out hb7)
                  have HN7 := hide (others_row ho7 HN6.out (by have := HSZ.out.2; omega) (by decide))
                  have n0 := cell_heap (j := 0) HN7.out rfl
                  have n1 := cell_heap (j := 1) HN7.out rfl
                  have n2 := cell_heap (j := 2) HN7.out rfl
                  have n3 := cell_heap (j := 3) HN7.out rfl
                  have HS7 := hide (Nat.le_trans HS6.out hb7.size)
                  have HD7 := hide hd7
                  have HJ2 := hide (show (Lib.join qs [32]).length ≤ wsW ws ∧ (indT d).length ≤ 128 from ⟨HJL.out, by simp [indT]; omega⟩)
                  clear hd7 hb7 ho7 HWR
                  have HW8 := hide (wstr_any (⟨#[59, 10]⟩ : ByteArray) HD7.out (by have h1 := HJ2.out; have h2 := HWT.out; show _ + 2 ≤ _; simp at h2 ⊢; omega) HS7.out)
                  go_wp2_with fail
                  refine HW8.out.mono ?_
                  rintro e w8 ⟨rfl, hd8, hb8, ho8⟩
                  have HF := hide (show WL Bx b l w w8 d F (i + 1) R (o ++ (indT d ++ Lib.join qs [32] ++ [59, 10])) xs D from ⟨below_two HB7.out hb8, by simpa [T] using hd8, HRF.out, by have := HLEN.out; omega, HNO.out.2, by rw [HX.out.eq, write_leaf (by have := HWQ.out; omega) HK0.out HQS.out, pre_pre], by
                    have h1 := HJ2.out
                    have h2 := HWT.out
                    simp at h2 ⊢
                    omega, HWW.out.2.2⟩)
                  clear hd8 hb8 ho8
                  go_wp2_with fail
                  go_roundw
                  case rel => exact ⟨i + 1, R, _, by go_num, HF.out⟩
                  case measure => have := HLEN.out; simp [intOf]; omega
            · have e1 : decide (0 < K.len) = true := decide_eq_true (by omega)
              have e1' : decide ((0 : Int) < (K.len : Int)) = true := decide_eq_true (by omega)
              have HE := hide (show writeF d F = none from by rw [HX.out.eq, write_bad (.inr (.inl ⟨rfl, by omega⟩))]; rfl)
              have HB1 := hide (fun o => below_lo HX.out.bl (bel_one wr o) (Nat.le_trans hBx HX.out.bl.size))
              have HBD := hide (fun o => HX.out.bd.below (bel_one wr o))
              clear hk0 hw0
              go_wp2_with fail
              (try simp only [Exit.inBlock, Exit.then])
              go_ret
              rw [HE.out]
              exact ⟨HB1.out _, rfl, _, HBD.out _⟩
          | true =>
            rcases Nat.lt_or_ge d 32 with hd0 | hd0
            · have e1 : decide (32 ≤ d) = false := decide_eq_false (by omega)
              have e1' : decide ((32 : Int) ≤ (d : Int)) = false := decide_eq_false (by omega)
              have HD0 := hide hd0
              clear hd0
              have HB1 := hide (below_lo HX.out.bl (bel_one wr (Obj.cells #[.slice Aw ws.length cw, .slice Ap ps.length cp, .bool true, .slice Ak K.len ck] 44)) (Nat.le_trans hBx HX.out.bl.size))
              have HBD := hide (HX.out.bd.below (bel_one wr (Obj.cells #[.slice Aw ws.length cw, .slice Ap ps.length cp, .bool true, .slice Ak K.len ck] 44)))
              have HNB := hide (heap_new wr (Obj.cells #[.slice Aw ws.length cw, .slice Ap ps.length cp, .bool true, .slice Ak K.len ck] 44))
              have HSZ := hide (show Bx ≤ wr.heap.size ∧ b < wr.heap.size from ⟨Nat.le_trans hBx HX.out.bl.size, HX.out.bd.lt⟩)
              have HW1 := hide (show (wr.alloc (Obj.cells #[.slice Aw ws.length cw, .slice Ap ps.length cp, .bool true, .slice Ak K.len ck] 44)).heap.size = wr.heap.size + 1 from by simp)
              have HI0 := hide (show WI (wr.alloc (Obj.cells #[.slice Aw ws.length cw, .slice Ap ps.length cp, .bool true, .slice Ak K.len ck] 44)) (wr.alloc (Obj.cells #[.slice Aw ws.length cw, .slice Ap ps.length cp, .bool true, .slice Ak K.len ck] 44)) (.slice none 0 0) [] ws 0 from ⟨Below.refl _ _, ⟨rfl, .inl ⟨rfl, rfl⟩⟩, (preQ_nil _).symm, rfl⟩)
              have HWQ := hide hw0
              clear hw0
              go_wp2_with fail
              generalize wr.alloc (Obj.cells #[.slice Aw ws.length cw, .slice Ap ps.length cp, .bool true, .slice Ak K.len ck] 44) = w1 at *
              go_loopw [9, 47] (fun va j wk => ∃ (k : Nat) (qs : List (List UInt8)), j = .int .i64 k ∧ k ≤ ws.length ∧ WI w1 wk va qs ws k) (fun _ j _ => ws.length - (intOf j).toNat)
              case atStart => exact ⟨0, [], rfl, Nat.zero_le _, HI0.out⟩
              case round =>
                clear HI0
                obtain ⟨k, qs, rfl, hk, hI⟩ := hrel
                obtain rfl : qs.length = k := hI.len
                obtain ⟨Av, cv, rfl⟩ := own_slice hI.own
                have HI := hide hI
                have HBK := hide (below_lo HB1.out hI.bl (by have h1 := HSZ.out.1; have h2 := HW1.out; omega))
                have HDK := hide (HBD.out.below hI.bl)
                have HSK := hide (show Bx ≤ wr.heap.size from by have h1 := HSZ.out.1; have h2 := HW1.out; have h3 := hI.bl.size; omega)
                clear hI
                rcases Nat.lt_or_ge qs.length ws.length with hlt | hge
                · obtain ⟨hsl, ⟨_, h2, _⟩ | ⟨ad, rfl, hsc⟩⟩ := HWS.out
                  · omega
                  · have hcw := hsc qs.length (.string ws[qs.length]) (by rw [List.getElem?_map, List.getElem?_eq_getElem hlt]; rfl)
                    have hsp : ad.spot = none := World.cell?_spot (hsc 0 (.string (ws[0]'(by omega))) (by rw [List.getElem?_map, List.getElem?_eq_getElem]; rfl))
                    have hadB := HD.out _ (HWB.out ad rfl).1
                    obtain ⟨wb, wo, sp⟩ := ad
                    cases hsp
                    rw [Addr.add_lit] at hcw
                    have q0 := cell_lo HBK.out (a := ⟨wb, wo + qs.length, none⟩) hadB hcw
                    have d3 : decide (qs.length < ws.length) = true := decide_eq_true hlt
                    have d3' : decide ((qs.length : Int) < (ws.length : Int)) = true := decide_eq_true (by omega)
                    have d4 : ((qs.length : Int) < (ws.length : Int)) := by omega
                    have HQ := hide (quoted_any ws[qs.length] wr (HWW.out.1 _ (List.getElem_mem hlt)) m (cell_lo HBK.out (a := ⟨0, 0, none⟩) hB0 HM.out))
                    have HDR := hide (show ws.drop qs.length = ws[qs.length] :: ws.drop (qs.length + 1) from List.drop_eq_getElem_cons hlt)
                    have HEQ := hide (show quotesT ws = preQ qs (quotesT (ws[qs.length] :: ws.drop (qs.length + 1))) from by rw [← HDR.out]; exact HI.out.eq)
                    clear hsl hsc hcw hadB
                    generalize ws[qs.length] = wk0 at *
                    cases hq : quoteT (T wk0) with
                    | none =>
                      have hqv : quoteV (T wk0) = .tuple #[.string ⟨#[]⟩, .bool false] := by unfold quoteV; rw [hq]
                      rw [hqv] at HQ
                      have HE := hide (show writeF d F = none from by rw [HX.out.eq, write_noq (quotes_none HEQ.out hq)]; rfl)
                      clear hqv hq
                      go_wp2_with fail
                      refine HQ.out.mono ?_
                      rintro e w2 ⟨rfl, hb2⟩
                      have HB2 := hide (below_lo HBK.out hb2 HSK.out)
                      have HD2 := hide (HDK.out.below hb2)
                      clear hb2
                      go_wp2_with fail
                      (try simp only [Exit.inBlock, Exit.then])
                      go_ret
                      rw [HE.out]
                      exact ⟨HB2.out, rfl, _, HD2.out⟩
                    | some q =>
                      have hqv : quoteV (T wk0) = .tuple #[.string ⟨q.toArray⟩, .bool true] := by unfold quoteV; rw [hq]
                      rw [hqv] at HQ
                      have HE := hide (quotes_some HEQ.out hq)
                      clear hqv hq
                      go_wp2_with fail
                      refine HQ.out.mono ?_
                      rintro e w2 ⟨rfl, hb2⟩
                      have HB2 := hide (below_lo HI.out.bl hb2 HI.out.bl.size)
                      have HO2 := hide ((own_belwt HI.out.own hb2).alloc (Obj.cells #[.string ⟨q.toArray⟩] 9))
                      have HR2 := hide (row_at (heap_new w2 (Obj.cells #[.string ⟨q.toArray⟩] 9)))
                      have HS2 := hide hb2.size
                      clear hb2
                      go_wp2_with (at_builtin; go_must (refine wpList_append_own_at _ rfl (.tmp 58) (.tmp 60) 41 rfl w1.heap.size 9 si _ 1 16 Try.underlying41 sz0 sz ss sb rfl (by decide) _ _ _ rfl HO2.out ⟨w2.heap.size, 0, none⟩ 1 1 [.string ⟨q.toArray⟩] rfl rfl HR2.out ?ones ?c63 ?cby ?cbase ?_))
                      case ones => simp [Value.oneCell']
                      case c63 => unfold maxLen; omega
                      case cby => omega
                      case cbase => have h1 := HI.out.bl.size; have h2 := HS2.out; simp; omega
                      intro v' w4 hown hgr _ hk2
                      have HI4 := hide (show WI w1 w4 v' (qs ++ [q]) ws (qs.length + 1) from ⟨(HB2.out.alloc HB2.out.size _).grown hgr (by have := HB2.out.size; simp; omega) (fun g e => (HO2.out.lt g e).1), by rw [List.length_append, List.map_append]; exact hown, HE.out, by simp⟩)
                      have HLT := hide hlt
                      clear hown hgr hk2
                      go_wp2_with fail
                      go_roundw
                      case rel => exact ⟨qs.length + 1, _, by go_num, HLT.out, HI4.out⟩
                      case measure => have := HLT.out; simp [intOf]; omega
                · have hkk : qs.length = ws.length := by omega
                  have d3 : decide (qs.length < ws.length) = false := decide_eq_false (by omega)
                  have d3' : decide ((qs.length : Int) < (ws.length : Int)) = false := decide_eq_false (by omega)
                  have hqs : quotesT ws = some qs := by
                    rw [HI.out.eq, hkk, List.drop_length, quotesT]; simp [preQ]
                  have HQS := hide hqs
                  obtain ⟨gq, cq, hvq, hgq1, hgq2⟩ := own_some' HI.out.own (by have h1 := HWQ.out; have h2 := HI.out.len; omega)
                  simp only [Value.slice.injEq, true_and] at hvq
                  obtain ⟨rfl, rfl⟩ := hvq
                  have HJL := hide (Nat.le_trans (join_le qs) (quotes_len ws qs hqs).2)
                  have HN0 := hide (heapB HI.out.bl HNB.out)
                  have HQL := hide hk
                  have HQC := hide (own_cells' HI.out.own)
                  have HRP := hide (Try.strings_Repeat ⟨#[32, 32, 32, 32]⟩ d wr (by omega) (by show 4 * d ≤ _; omega))
                  have hre : (Lib.repeatL (⟨#[32, 32, 32, 32]⟩ : ByteArray).data.toList d) = indT d := repeat_ind d
                  rw [hre] at HRP
                  generalize hbi : (⟨(indT d).toArray⟩ : ByteArray) = bi at HRP
                  have hTi : T bi = indT d := by rw [← hbi]; rfl
                  have hsi : bi.size ≤ 128 := by rw [← T_len, hTi]; simp [indT]; omega
                  have HTI := hide hTi
                  clear hbi hTi
                  have HCV := hide (own_capq HI.out.own)
                  clear hqs hre hkk hk hge
                  go_wp2_with fail
                  refine HRP.out.mono ?_
                  rintro e w5 ⟨rfl, hb5⟩
                  have HB5 := hide (below_lo HBK.out hb5 HSK.out)
                  have HD5 := hide (HDK.out.below hb5)
                  have HN5 := hide (heapB hb5 HN0.out)
                  have HS5 := hide (Nat.le_trans HSK.out hb5.size)
                  have HJ := hide (Try.strings_Join gq 0 cv (qs.map fun q => (⟨q.toArray⟩ : ByteArray)) ⟨#[32]⟩ w5 (by
                    intro j x hj
                    rw [List.getElem?_map] at hj
                    obtain ⟨q, hq, rfl⟩ := Option.map_eq_some_iff.1 hj
                    have := HQC.out j (.string ⟨q.toArray⟩) (by rw [List.getElem?_map, hq]; rfl)
                    rw [Addr.add_lit] at this
                    exact cellB hb5 this) (Nat.lt_of_lt_of_le hgq2 hb5.size) (by rw [List.length_map]; have h1 := HQL.out; omega) (by rw [List.length_map]; exact HCV.out) (by
                    have h1 := HJL.out
                    have h2 := HWT.out
                    rw [map_data]
                    show (Lib.join qs [32]).length ≤ _
                    omega))
                  rw [map_data, show (⟨#[32]⟩ : ByteArray).data.toList = [32] from rfl, List.length_map] at HJ
                  generalize hbj : (⟨(Lib.join qs [32]).toArray⟩ : ByteArray) = bj at HJ
                  have hTj : T bj = Lib.join qs [32] := by rw [← hbj]; rfl
                  have hsj : bj.size ≤ wsW ws := by rw [← T_len, hTj]; exact HJL.out
                  have hww : wsW ws ≤ 4398046511104 := by have := HWT.out; omega
                  have HTJ := hide hTj
                  clear hbj hTj
                  clear hb5 HRP
                  go_wp2_with fail
                  refine HJ.out.mono ?_
                  rintro e w6 ⟨rfl, hb6⟩
                  have HB6 := hide (below_lo HB5.out hb6 HS5.out)
                  have HD6 := hide (HD5.out.below hb6)
                  have HN6 := hide (heapB hb6 HN5.out)
                  have HS6 := hide (Nat.le_trans HS5.out hb6.size)
                  have HWR := hide (wstr_any (bi ++ bj) HD6.out (by rw [ByteArray.size_append]; have h2 := HWT.out; omega) HS6.out)
                  rw [T_append, HTI.out, HTJ.out] at HWR
                  clear hb6 HJ
                  go_wp2_with fail
                  refine HWR.out.mono ?_
                  rintro e w7 ⟨rfl, hd7, hb7, ho7⟩
                  have HB7 := hide (below_two HB6.out hb7)
                  have HN7 := hide (others_row ho7 HN6.out (by have := HSZ.out.2; omega) (by decide))
                  have n0 := cell_heap (j := 0) HN7.out rfl
                  have n1 := cell_heap (j := 1) HN7.out rfl
                  have n2 := cell_heap (j := 2) HN7.out rfl
                  have n3 := cell_heap (j := 3) HN7.out rfl
                  have HS7 := hide (Nat.le_trans HS6.out hb7.size)
                  have HD7 := hide hd7
                  have HJ2 := hide (show (Lib.join qs [32]).length ≤ wsW ws ∧ (indT d).length ≤ 128 from ⟨HJL.out, by simp [indT]; omega⟩)
                  clear hd7 hb7 ho7 HWR
                  have HW8 := hide (wstr_any (⟨#[32, 123, 10]⟩ : ByteArray) HD7.out (by have h1 := HJ2.out; have h2 := HWT.out; show _ + 3 ≤ _; simp at h2 ⊢; omega) HS7.out)
                  go_wp2_with fail
                  refine HW8.out.mono ?_
                  rintro e w8 ⟨rfl, hd8, hb8, ho8⟩
                  have HB8 := hide (below_two HB7.out hb8)
                  have HN8 := hide (others_row ho8 HN7.out (by have := HSZ.out.2; omega) (by decide))
                  have m2 := cell_heap (j := 2) HN8.out rfl
                  have m3 := cell_heap (j := 3) HN8.out rfl
                  have HS8 := hide (Nat.le_trans HS7.out hb8.size)
                  have hd8' : Bld Bx b (l ++ o ++ (indT d ++ Lib.join qs [32]) ++ [32, 123, 10]) w8 := hd8
                  have HD8 := hide hd8'
                  have HK8 := hide (src_keep HKS.out (fun a ha => HB8.out.block _ (HD.out _ (HKA.out a ha))))
                  have HF8 := hide (HKF.out.keep (fun q hq => HB8.out.block q (HD.out q hq)))
                  have HREC := hide (HIH.out K.nodes HNO.out.1 K rfl (d + 1) Ak ck ys _ D w8 HK8.out HF8.out HD.out (fun a ha => HD.out _ (HKA.out a ha)) hd8' HS8.out (by have := HD0.out; omega) (by have h1 := HJ2.out; have h2 := HWT.out; simp at h2 ⊢; omega) HWW.out.2.1 hB0 (cell_lo HB8.out (a := ⟨0, 0, none⟩) hB0 HM.out))
                  rw [show ((d + 1 : Nat) : Int) = (d : Int) + 1 from rfl] at HREC
                  clear hd8 hd8' hb8 ho8 n0 n1 n2 n3
                  go_wp2_with fail
                  refine HREC.out.mono ?_
                  rintro e w9 ⟨hb9, hh⟩
                  cases hk9 : writeF (d + 1) K with
                  | none =>
                    rw [hk9] at hh
                    obtain ⟨rfl, l', hl'⟩ := hh
                    have HE := hide (show writeF d F = none from by rw [HX.out.eq, write_kno hk9]; rfl)
                    have HB9 := hide (below_two HB8.out hb9)
                    have HL9 := hide hl'
                    clear hk9 hb9 hl'
                    go_wp2_with fail
                    (try simp only [Exit.inBlock, Exit.then])
                    go_ret
                    rw [HE.out]
                    exact ⟨HB9.out, rfl, _, HL9.out⟩
                  | some k9 =>
                    rw [hk9] at hh
                    obtain ⟨rfl, hd9⟩ := hh
                    have HB9 := hide (below_two HB8.out hb9)
                    have HS9 := hide (Nat.le_trans HS8.out hb9.size)
                    have HK9 := hide (write_wt K (d + 1) k9 hk9 (by have := HD0.out; omega))
                    have HW9 := hide (wstr_any (bi ++ (⟨#[125, 10]⟩ : ByteArray)) hd9 (by rw [ByteArray.size_append]; have h1 := HJ2.out; have h2 := HWT.out; have h3 := HK9.out; show _ + (bi.size + 2) ≤ _; simp at h2 ⊢; omega) HS9.out)
                    rw [T_append, HTI.out] at HW9
                    have HKE := hide hk9
                    clear hk9 hb9 hd9
                    go_wp2_with fail
                    refine HW9.out.mono ?_
                    rintro e wa ⟨rfl, hda, hba, hoa⟩
                    have HF := hide (show WL Bx b l w wa d F (i + 1) R (o ++ (indT d ++ Lib.join qs [32] ++ [32, 123, 10] ++ k9 ++ (indT d ++ [125, 10]))) xs D from ⟨below_two HB9.out hba, by
                      have e : l ++ (o ++ (indT d ++ Lib.join qs [32] ++ [32, 123, 10] ++ k9 ++ (indT d ++ [125, 10]))) = l ++ o ++ (indT d ++ Lib.join qs [32]) ++ [32, 123, 10] ++ k9 ++ (indT d ++ T (⟨#[125, 10]⟩ : ByteArray)) := by simp [T]
                      rw [e]
                      exact hda, HRF.out, by have := HLEN.out; omega, HNO.out.2, by rw [HX.out.eq, write_blk (by have := HWQ.out; omega) HD0.out HQS.out HKE.out, pre_pre], by
                      have h1 := HJ2.out
                      have h2 := HWT.out
                      have h3 := HK9.out
                      simp at h1 h2 ⊢
                      omega, HWW.out.2.2⟩)
                    clear hda hba hoa
                    go_wp2_with fail
                    go_roundw
                    case rel => exact ⟨i + 1, R, _, by go_num, HF.out⟩
                    case measure => have := HLEN.out; simp [intOf]; omega
            · have e1 : decide (32 ≤ d) = true := decide_eq_true (by omega)
              have e1' : decide ((32 : Int) ≤ (d : Int)) = true := decide_eq_true (by omega)
              have HE := hide (show writeF d F = none from by rw [HX.out.eq, write_bad (.inr (.inr ⟨rfl, by omega⟩))]; rfl)
              have HB1 := hide (fun o => below_lo HX.out.bl (bel_one wr o) (Nat.le_trans hBx HX.out.bl.size))
              have HBD := hide (fun o => HX.out.bd.below (bel_one wr o))
              clear hd0 hw0
              go_wp2_with fail
              (try simp only [Exit.inBlock, Exit.then])
              go_ret
              rw [HE.out]
              exact ⟨HB1.out _, rfl, _, HBD.out _⟩
end Go.Proofs.Ytihmmmodimionaa.Tr
/- Print; Find and Merge on nothing. -/
namespace Go.Proofs.Ytihmmmodimionaa.Tr
open Go.RowKit Go.Proofs.Ytihmmmodimionaa Go.Proofs.Ytihmmmodimionaa.Lx

def printV (r : Option (List UInt8)) : Value := match r with
  | some o => .tuple #[.string ⟨o.toArray⟩, .int .i64 0]
  | none => .tuple #[.string ⟨#[]⟩, .int .i64 1]
set_option maxRecDepth 100000 in
theorem print_any (F : Fo) (A : Option Addr) (c : Nat) (xs : List Value) (D : Nat → Prop) (w : World) (hs : Src w A F.len c 4 xs) (hf : FoV w D F xs) (hD : ∀ q, D q → q < w.heap.size) (hA : ∀ a, A = some a → a.block < w.heap.size) (hwt : wtF F ≤ 4398046511104) (hwb : WB F) (m : Int) (hm : w.cell? ⟨0, 0, none⟩ = some (.int .i64 m)) :
    Calls Try.prog 13 #[.slice A F.len c] w fun e w' => e = .returned (printV (writeF 0 F)) ∧ Below w.heap.size w w' := by
  have h0 : 0 < w.heap.size := by
    rcases Nat.eq_zero_or_pos w.heap.size with h | h
    · unfold World.cell? at hm
      rw [Array.getElem?_eq_none (by omega)] at hm
      cases hm
    · exact h
  have hb1 := bel_one w (.cells #[.pointer none, .slice none 0 0] 84)
  have hB : Bld w.heap.size w.heap.size [] (w.alloc (.cells #[.pointer none, .slice none 0 0] 84)) := .inl ⟨Nat.le_refl _, .slice none 0 0, heap_new w _, ⟨rfl, .inl ⟨rfl, rfl⟩⟩, by simp [Value.ownBlock]⟩
  have HW := hide (write_any w.heap.size w.heap.size m F.nodes F rfl 0 A c xs [] D (w.alloc (.cells #[.pointer none, .slice none 0 0] 84)) (src_keep hs (fun a ha => hb1.block _ (hA a ha))) (hf.keep (fun q hq => hb1.block q (hD q hq))) hD hA hB (by simp) (by omega) (by simpa using hwt) hwb h0 (cellB hb1 hm))
  have HB1 := hide hb1
  clear hs hf hD hA hwt hwb hm hB hb1
  go_enter Try.func13, Try.ntmps13
  go_wp2_with fail
  refine HW.out.mono ?_
  rintro e w2 ⟨hb2, hh⟩
  have HB2 := hide (below_two HB1.out hb2)
  cases hr : writeF 0 F with
  | none =>
    rw [hr] at hh
    have HR := hide hr
    obtain ⟨rfl, _⟩ := hh
    clear hb2 hr
    go_wp2_with fail
    go_returns
    exact ⟨by rw [HR.out]; rfl, HB2.out⟩
  | some o =>
    rw [hr] at hh
    have HR := hide hr
    obtain ⟨rfl, hd⟩ := hh
    have HS := hide ((Any.Builder_String_any_f Try.lays169 Try.Builder_Extra_169 w.heap.size w.heap.size ([] ++ o) w2 hd HB2.out.size))
    clear hb2 hr hd
    go_wp2_with fail
    refine HS.out.mono ?_
    rintro e w3 ⟨rfl, _, hb3⟩
    have HB3 := hide (below_two HB2.out hb3)
    clear hb3
    go_wp2_with fail
    go_returns
    exact ⟨by rw [HR.out]; rfl, HB3.out⟩
set_option maxRecDepth 100000 in
theorem find_nil (w : World) : Calls Try.prog 14 #[.slice none 0 0, .slice none 0 0] w fun e w' => e = .returned (.tuple #[.slice none 0 0, .bool false]) ∧ w = w' := by
  go_enter Try.func14, Try.ntmps14
  go_wp2_with fail
  go_loopw [10] (fun j wr => j = .int .i64 0 ∧ wr = w) (fun j _ => 0)
  case atStart => exact ⟨rfl, rfl⟩
  case round =>
    obtain ⟨rfl, rfl⟩ := hrel
    go_wp2_with fail
    go_returns
    exact ⟨rfl, rfl⟩
set_option maxRecDepth 100000 in
theorem merge_nil (w : World) : Calls Try.prog 15 #[.slice none 0 0] w fun e w' => e = .returned (.slice none 0 0) ∧ w = w' := by
  go_enter Try.func15, Try.ntmps15
  go_wp2_with fail
  go_loopw [3, 10] (fun v j wr => v = .slice none 0 0 ∧ j = .int .i64 0 ∧ wr = w) (fun _ j _ => 0)
  case atStart => exact ⟨rfl, rfl, rfl⟩
  case round =>
    obtain ⟨rfl, rfl, rfl⟩ := hrel
    go_wp2_with fail
    go_loopw [44] (fun j wx => j = .int .i64 0 ∧ wx = wr) (fun j _ => 0)
    case atStart => exact ⟨rfl, rfl⟩
    case round =>
      obtain ⟨rfl, hw⟩ := hrel
      subst hw
      go_wp2_with fail
      go_ret
      exact ⟨rfl, rfl⟩
end Go.Proofs.Ytihmmmodimionaa.Tr
