/- What the claim leans on, part 6 of 13: EK EL RG EM EN EO. -/
import Derived.Deep.AppendLies
import Derived.OrdersHeld
import Derived.Test.YtgfjdkkfgclhjaaGreatPl01
import Derived.Test.YtgfjdkkfgclhjaaGreatPl02
import Derived.Test.YtgfjdkkfgclhjaaGreatPl03
import Derived.Test.YtgfjdkkfgclhjaaGreatPl04
import Derived.Test.YtgfjdkkfgclhjaaGreatPl05
/- The document's Inner, walked. -/
namespace Go.Proofs.YtgfjdkkfgclhjaaGreat.Bd
open Go.RowKit Go.Proofs.YtgfjdkkfgclhjaaGreat Go.Proofs.YtgfjdkkfgclhjaaGreat.Lx Go.Maps

theorem grown_trans {w0 wr w' : World} {r r2 : Option Nat} (h : w0.grownBy wr r) (h2 : wr.grownBy w' r2) (hr : ∀ b, r2 = some b → r = some b ∨ w0.heap.size ≤ b) : w0.grownBy w' r :=
  ⟨h2.os.trans h.os, h2.tape.trans h.tape, h2.output.trans h.output, Nat.le_trans h.size h2.size, fun k hk hne => (h2.block k (Nat.lt_of_lt_of_le hk h.size) (fun e => by
    rcases hr k e.symm with h' | h'
    · exact hne h'.symm
    · omega)).trans (h.block k hk hne)⟩
/-- the list of texts while Inner lengthens it; what was handed in reads on -/
structure HdS (base : Nat) (w0 wr : World) (V0 : Value) (l0 : List Tb) (V : Value) (l : List Tb) : Prop where
  own : wr.ownsRow base 9 1 V l.length (encT l)
  old : wr.ownsRow base 9 1 V0 l0.length (encT l0)
  le : l0.length ≤ l.length
  fr : w0.grownBy wr V0.ownBlock
  bo : Bools w0 wr
  blk : V.ownBlock = V0.ownBlock ∨ ∀ b, V.ownBlock = some b → w0.heap.size ≤ b
  hb : base ≤ w0.heap.size
section
variable {base : Nat} {w0 wr w' : World} {V0 V : Value} {l0 l : List Tb}
theorem HdS.start (h : w0.ownsRow base 9 1 V l.length (encT l)) (hb : base ≤ w0.heap.size) : HdS base w0 w0 V l V l :=
  ⟨h, h, Nat.le_refl _, ⟨rfl, rfl, rfl, Nat.le_refl _, fun _ _ _ => rfl⟩, Bools.refl _, .inl rfl, hb⟩
theorem HdS.below (h : HdS base w0 wr V0 l0 V l) (hb : Below wr.heap.size wr w') : HdS base w0 w' V0 l0 V l :=
  ⟨own_below h.own hb, own_below h.old hb, h.le, grown_trans h.fr (below_grown hb none) (fun b e => by cases e), h.bo.trans (Bools.below hb), h.blk, h.hb⟩
theorem HdS.other {t : TypeId} {b n : Nat} {u : Value} {xs : List Value} (h : HdS base w0 wr V0 l0 V l) (ho : wr.ownsRow b t 1 u n xs) (ht : t ≠ 9) (hb : w0.heap.size ≤ b) (hg : wr.grownBy w' u.ownBlock) (hbo : Bools wr w') : HdS base w0 w' V0 l0 V l :=
  ⟨own_kept h.own hg (fun g e => own_types ho h.own ht g e), own_kept h.old hg (fun g e => own_types ho h.old ht g e), h.le, grown_trans h.fr hg (fun g e => .inr (Nat.le_trans hb (ho.lt g e).1)), h.bo.trans hbo, h.blk, h.hb⟩
theorem HdS.push {v' : Value} {x : Tb} (h : HdS base w0 wr V0 l0 V l) (hown : w'.ownsRow base 9 1 v' (l.length + 1) (encT l ++ [.string (txt x)])) (hg : wr.grownBy w' V.ownBlock) (hk : v'.ownBlock = V.ownBlock ∨ v'.ownBlock = some wr.heap.size) (hold : ∀ (v0 : Value) (n0 : Nat) (xs0 : List Value), wr.ownsRow base 9 1 v0 n0 xs0 → (v0.ownBlock = V.ownBlock → n0 ≤ l.length) → w'.ownsRow base 9 1 v0 n0 xs0) : HdS base w0 w' V0 l0 v' (l ++ [x]) := by
  have e : encT l ++ [.string (txt x)] = encT (l ++ [x]) := by simp
  refine ⟨by rw [List.length_append, ← e]; exact hown, hold _ _ _ h.old (fun _ => h.le), by rw [List.length_append]; have := h.le; omega, grown_trans h.fr hg (fun b hb => ?_), h.bo.trans (Bools.own h.own (by decide) hg), ?_, h.hb⟩
  · rcases h.blk with e1 | e1
    · exact .inl (e1 ▸ hb)
    · exact .inr (e1 b hb)
  · rcases hk with e1 | e1
    · rcases h.blk with e2 | e2
      · exact .inl (e1.trans e2)
      · exact .inr (fun b hb => e2 b (e1 ▸ hb))
    · exact .inr (fun b hb => by rw [e1] at hb; cases hb; exact h.fr.size)
theorem TRow.below {b : Nat} {ts : List Tb} {vs : List Value} (h : TRow b wr V ts vs) (hb : Below wr.heap.size wr w') : TRow b w' V ts vs := ⟨own_below h.own hb, h.tv.to (Bools.below hb)⟩
/-- a row of tables stays while the texts grow -/
theorem TRow.held {b b2 n : Nat} {u : Value} {xs : List Value} {ts : List Tb} {vs : List Value} (h : TRow b wr V ts vs) (ho : wr.ownsRow b2 9 1 u n xs) (hg : wr.grownBy w' u.ownBlock) : TRow b w' V ts vs :=
  ⟨own_kept h.own hg (fun g e => own_types ho h.own (by decide) g e), h.tv.to (Bools.own ho (by decide) hg)⟩
/-- .. and while a row of tables behind it grows -/
theorem TRow.apart {b b2 n : Nat} {u : Value} {xs : List Value} {ts : List Tb} {vs : List Value} (h : TRow b wr V ts vs) (ho : wr.ownsRow b2 32 1 u n xs) (hb : ∀ g, V.ownBlock = some g → g < b2) (hg : wr.grownBy w' u.ownBlock) (hbo : Bools wr w') : TRow b w' V ts vs :=
  ⟨own_kept h.own hg (fun g e e2 => by have := hb g e2; have := (ho.lt g e).1; omega), h.tv.to hbo⟩
theorem TRow.low {b b2 : Nat} {ts : List Tb} {vs : List Value} (h : TRow b wr V ts vs) (hb : b2 ≤ b) : TRow b2 wr V ts vs := ⟨own_base h.own hb, h.tv⟩
theorem TRow.nil (b : Nat) (w : World) : TRow b w (.slice none 0 0) [] [] := ⟨⟨rfl, .inl ⟨rfl, rfl⟩⟩, TsV.nil w⟩
end
theorem addT_len (l : List Tb) (f : Tb) : (addT l f).length ≤ l.length + 1 := by
  unfold addT
  split
  · omega
  · simp
theorem putI_len (n : Nat) (l : List Tb) (x : Tb) : (putI n l x).length ≤ l.length + 1 := by
  unfold putI
  split
  · omega
  · simp
def nxS (n v : Nat) (nx : List Tb) (x : Tb) : List Tb := addT (addT nx (restR n x v false)) (restR n x v true)
def nxL (n v : Nat) (now : List Tb) : List Tb := if v < n then now.foldl (nxS n v) [] else []
theorem foldl_next {α β : Type} (f : α → β → α) (a : α) {l : List β} {i : Nat} {x : β} (h : l[i]? = some x) : (l.take (i + 1)).foldl f a = f ((l.take i).foldl f a) x := by
  rw [List.take_add_one, h, List.foldl_append]
  rfl
theorem nxL_next {n v : Nat} {now : List Tb} {i : Nat} {x : Tb} (h : now[i]? = some x) : nxL n v (now.take (i + 1)) = if v < n then addT (addT (nxL n v (now.take i)) (restR n x v false)) (restR n x v true) else [] := by
  unfold nxL
  by_cases hv : v < n
  · rw [if_pos hv, if_pos hv, if_pos hv, foldl_next _ _ h]
    rfl
  · rw [if_neg hv, if_neg hv]
theorem nxL_len (n v : Nat) : ∀ (now : List Tb), (nxL n v now).length ≤ 2 * now.length := by
  have h : ∀ (now l : List Tb), (now.foldl (nxS n v) l).length ≤ l.length + 2 * now.length := by
    intro now
    induction now with
    | nil => intro l; simp
    | cons x xs ih =>
      intro l
      have h1 := ih (nxS n v l x)
      have h2 := addT_len l (restR n x v false)
      have h3 := addT_len (addT l (restR n x v false)) (restR n x v true)
      rw [List.foldl_cons, List.length_cons]
      unfold nxS at h1 ⊢
      omega
  intro now
  unfold nxL
  split
  · have := h now []
    simpa using this
  · simp
theorem inLv_next {n : Nat} {now l : List Tb} {i : Nat} {x : Tb} (h : now[i]? = some x) : inLv n (now.take (i + 1)) l = putI n (inLv n (now.take i) l) x := foldl_next _ _ h
theorem inLv_len (n : Nat) : ∀ (now l : List Tb), (inLv n now l).length ≤ l.length + now.length
  | [], l => by simp [inLv]
  | x :: xs, l => by
    have h1 := inLv_len n xs (putI n l x)
    have h2 := putI_len n l x
    show (inLv n xs (putI n l x)).length ≤ _
    rw [List.length_cons]
    omega
theorem nx_mem {n v m : Nat} {now : List Tb} (h : ∀ t ∈ now, t.length = m) : ∀ t ∈ nxL n v now, t.length = m := by
  intro t ht
  unfold nxL at ht
  split at ht
  · obtain ⟨y, hy, b, rfl⟩ := mem_inNx.1 (show t ∈ inNx n v now from ht)
    rw [rest_len]
    exact h y hy
  · cases ht
theorem inG_step {n v : Nat} {now l : List Tb} (h : v < n) : inG n (n - v) v now l = inG n (n - (v + 1)) (v + 1) (nxL n v now) (inLv n now l) := by
  obtain ⟨k, hk⟩ : ∃ k, n - v = k + 1 := ⟨n - v - 1, by omega⟩
  rw [hk, inG, show n - (v + 1) = k by omega]
  congr 1
  unfold nxL
  rw [if_pos h]
  rfl
theorem inG_last {n : Nat} {now l : List Tb} : inG n (n - n) n now l = inLv n now l := by rw [Nat.sub_self]; rfl
/-- all that Inner holds while it goes over a level -/
structure InS (base : Nat) (w0 w1 wr : World) (V0 : Value) (l0 : List Tb) (V : Value) (cu : List Tb) (Vn : Value) (N : List Tb) (ns : List Value) (Vw : Value) (now : List Tb) (vs : List Value) : Prop where
  H : HdS base w0 wr V0 l0 V cu
  N : TRow w1.heap.size wr Vn N ns
  W : TRow w0.heap.size wr Vw now vs
  wl : ∀ g, Vw.ownBlock = some g → g < w1.heap.size
  l1 : w0.heap.size ≤ w1.heap.size
  lr : w1.heap.size ≤ wr.heap.size
section
variable {base : Nat} {w0 w1 wr w' : World} {V0 V Vn Vw : Value} {l0 cu N now : List Tb} {ns vs : List Value}
theorem InS.below (h : InS base w0 w1 wr V0 l0 V cu Vn N ns Vw now vs) (hb : Below wr.heap.size wr w') : InS base w0 w1 w' V0 l0 V cu Vn N ns Vw now vs :=
  ⟨h.H.below hb, h.N.below hb, h.W.below hb, h.wl, h.l1, Nat.le_trans h.lr hb.size⟩
theorem InS.addN {V2 : Value} {N2 : List Tb} {ns2 : List Value} (h : InS base w0 w1 wr V0 l0 V cu Vn N ns Vw now vs) (hN : TRow w1.heap.size w' V2 N2 ns2) (hg : wr.grownBy w' Vn.ownBlock) (hbo : Bools wr w') : InS base w0 w1 w' V0 l0 V cu V2 N2 ns2 Vw now vs :=
  ⟨h.H.other h.N.own (by decide) h.l1 hg hbo, hN, h.W.apart h.N.own h.wl hg hbo, h.wl, h.l1, Nat.le_trans h.lr hg.size⟩
theorem InS.push {v' : Value} {x : Tb} (h : InS base w0 w1 wr V0 l0 V cu Vn N ns Vw now vs) (hown : w'.ownsRow base 9 1 v' (cu.length + 1) (encT cu ++ [.string (txt x)])) (hg : wr.grownBy w' V.ownBlock) (hk : v'.ownBlock = V.ownBlock ∨ v'.ownBlock = some wr.heap.size) (hold : ∀ (v0 : Value) (n0 : Nat) (xs0 : List Value), wr.ownsRow base 9 1 v0 n0 xs0 → (v0.ownBlock = V.ownBlock → n0 ≤ cu.length) → w'.ownsRow base 9 1 v0 n0 xs0) : InS base w0 w1 w' V0 l0 v' (cu ++ [x]) Vn N ns Vw now vs :=
  ⟨h.H.push hown hg hk hold, h.N.held h.H.own hg, h.W.held h.H.own hg, h.wl, h.l1, Nat.le_trans h.lr hg.size⟩
theorem InS.get (h : InS base w0 w1 wr V0 l0 V cu Vn N ns Vw now vs) {i : Nat} (hi : i < now.length) : ∃ g t, now[i]? = some t ∧ vs[i]? = some (.slice (some ⟨g, 0, none⟩) t.length t.length) := by
  obtain ⟨g, t, h1, h2, _⟩ := h.W.tv.get hi
  exact ⟨g, t, h1, h2⟩
theorem InS.row (h : InS base w0 w1 wr V0 l0 V cu Vn N ns Vw now vs) {i g : Nat} {t : Tb} (ht : now[i]? = some t) (hv : vs[i]? = some (.slice (some ⟨g, 0, none⟩) t.length t.length)) : BRow wr g t := by
  obtain ⟨g', e, hr⟩ := h.W.tv.at_ i _ _ hv ht
  injection e with e
  injection e with e
  injection e with e
  subst e
  exact hr
theorem InS.cell {A : Option Addr} {c i : Nat} {x : Value} (h : InS base w0 w1 wr V0 l0 V cu Vn N ns (.slice A now.length c) now vs) (hv : vs[i]? = some x) : ∃ ad, A = some ad ∧ wr.cell? (ad.add i) = some x := srcW_at (src_of_own h.W.own) hv
theorem InS.open_ (h : InS base w0 w1 wr V0 l0 V cu Vn N ns Vw now vs) : ∃ A c B d, V = .slice A cu.length c ∧ Vn = .slice B N.length d := by
  obtain ⟨A, c, e⟩ := own_slice h.H.own
  obtain ⟨B, d, e2⟩ := own_slice h.N.own
  exact ⟨A, c, B, d, e, e2⟩
end
theorem putI_in {n : Nat} {l : List Tb} {x : Tb} (h : x = allR n false ∨ x = allR n true ∨ x ∈ l) : putI n l x = l := if_pos h
theorem putI_new {n : Nat} {l : List Tb} {x : Tb} (h1 : x ≠ allR n false) (h2 : x ≠ allR n true) (h3 : x ∉ l) : putI n l x = l ++ [x] := if_neg (by rintro (h | h | h); exact h1 h; exact h2 h; exact h3 h)
theorem infoS : (Tryz.prog.info? 9).map (fun i => (i.zero, i.size, i.bytes)) = some (some (.string ByteArray.empty), 1, 16) := by kernel_rfl
theorem own_snoc {w : World} {V : Value} {g base : Nat} {v : Value} (h : w.heap[g]? = some (.cells #[v] 32 (0, 0))) (hg : base ≤ g) : w.ownsRow base 32 1 (.slice (some ⟨g, 0, none⟩) 1 1) 1 [v] :=
  ⟨rfl, .inr ⟨g, 1, #[v], rfl, hg, h, Nat.le_refl _, by decide, rfl, rfl⟩⟩
set_option maxHeartbeats 16000000 in
set_option maxRecDepth 100000 in
theorem Inner_any (n : Nat) (f : Tb) (g0 base : Nat) (A0 : Option Addr) (c0 : Nat) (l : List Tb) (w : World) (hn : n ≤ 6) (hf : BRow w g0 f) (hfl : f.length = 2 ^ n) (ho : w.ownsRow base 9 1 (.slice A0 l.length c0) l.length (encT l)) (hll : l.length ≤ 100000000) (hb : base ≤ w.heap.size) :
    Calls Tryz.prog 20 #[.int .i64 n, .slice (some ⟨g0, 0, none⟩) f.length f.length, .slice A0 l.length c0] w fun e w' => ∃ V, e = .returned V ∧ HdS base w w' (.slice A0 l.length c0) l V (inner n f l) := by
  obtain ⟨si, hs1, sz, ss, sb⟩ := info_at infoS
  have hm := pow_le6 hn
  have HF := hide hf
  have HH0 := hide (HdS.start ho hb)
  have hfm : f.length ≤ 64 := by omega
  have hbx := bel_one w (.cells #[.slice (some ⟨g0, 0, none⟩) f.length f.length] 32)
  have HW0 := hide (show TRow w.heap.size (w.alloc (.cells #[.slice (some ⟨g0, 0, none⟩) f.length f.length] 32)) (.slice (some ⟨w.heap.size, 0, none⟩) 1 1) [f] [.slice (some ⟨g0, 0, none⟩) f.length f.length] from ⟨own_snoc (V := .nilIface) (heap_new _ _) (Nat.le_refl _), (TsV.nil _).snoc ⟨g0, rfl, hf.below hbx⟩⟩)
  have HHX := hide (HH0.out.below hbx)
  have HX := hide hbx
  have HFL := hide hfl
  clear hf hfl ho hb hbx
  go_enter Tryz.func20, Tryz.ntmps20
  go_wp2_with fail
  generalize w.alloc (.cells #[.slice (some ⟨g0, 0, none⟩) f.length f.length] 32) = wx at *
  go_loopw [2, 7, 8, 9, 10, 11] (fun lv nv vv _ _ _ wr => ∃ (v : Nat) (A c B d : _) (cur now : List Tb) (vs : List Value), vv = .int .i64 v ∧ v ≤ n + 1 ∧ lv = .slice A cur.length c ∧ nv = .slice B now.length d ∧ HdS base w wr (.slice A0 l.length c0) l (.slice A cur.length c) cur ∧ TRow w.heap.size wr (.slice B now.length d) now vs ∧ now.length ≤ 2 ^ v ∧ (∀ t ∈ now, t.length = f.length) ∧ cur.length ≤ l.length + 64 * v ∧ (v ≤ n → inner n f l = inG n (n - v) v now cur) ∧ (v = n + 1 → inner n f l = cur)) (fun _ _ vv _ _ _ _ => n + 1 - (intOf vv).toNat)
  case atStart => exact ⟨0, _, _, _, _, l, [f], _, rfl, Nat.zero_le _, rfl, rfl, HHX.out, HW0.out, Nat.le_refl _, fun t ht => by rw [List.mem_singleton.1 ht], by omega, fun _ => rfl, fun h => by omega⟩
  case round =>
    clear HHX HW0 HH0
    obtain ⟨v, A, c, B, d, cur, now, vs, rfl, hv, rfl, rfl, hH, hW, hnl, hnt, hcl, hin, hfin⟩ := hrel
    rcases Nat.lt_or_ge n v with hvn | hvn
    · obtain rfl : v = n + 1 := by omega
      have d1 : decide (n + 1 ≤ n) = false := decide_eq_false (by omega)
      have d1' : decide (((n : Int) + 1) ≤ (n : Int)) = false := decide_eq_false (by omega)
      have HFIN := hide (hfin rfl)
      have HH := hide hH
      clear hin hfin hH hW hnt
      go_wp2_with fail
      go_ret
      rw [HFIN.out]
      exact ⟨_, rfl, HH.out⟩
    · have d1 : decide (v ≤ n) = true := decide_eq_true hvn
      have d1' : decide ((v : Int) ≤ (n : Int)) = true := decide_eq_true (by omega)
      have h64 : now.length ≤ 64 := Nat.le_trans hnl (pow_le6 (by omega))
      have HNL := hide hnl
      have HNT := hide hnt
      have HIN := hide (hin hvn)
      have HI0 := hide (show InS base w wr wr (.slice A0 l.length c0) l (.slice A cur.length c) cur (.slice none 0 0) (nxL n v (now.take 0)) [] (.slice B now.length d) now vs from ⟨hH, by unfold nxL; rw [List.take_zero]; split <;> exact TRow.nil _ _, hW, fun g hg => (hW.own.lt g hg).2, hH.fr.size, Nat.le_refl _⟩)
      have hnx0 : (nxL n v (now.take 0)).length = 0 := by unfold nxL; rw [List.take_zero]; split <;> rfl
      have HN0 := hide hnx0
      clear hH hW hnl hnt hin hfin hnx0
      obtain ⟨w1, hw1⟩ : ∃ x, x = wr := ⟨wr, rfl⟩
      rw [← hw1] at HI0
      go_wp2_with fail
      go_loopw [2, 9, 10, 11] (fun lv nv iv _ wr => ∃ (i : Nat) (A c B2 d2 : _) (ns : List Value), iv = .int .i64 i ∧ i ≤ now.length ∧ lv = .slice A (inLv n (now.take i) cur).length c ∧ nv = .slice B2 (nxL n v (now.take i)).length d2 ∧ InS base w w1 wr (.slice A0 l.length c0) l (.slice A (inLv n (now.take i) cur).length c) (inLv n (now.take i) cur) (.slice B2 (nxL n v (now.take i)).length d2) (nxL n v (now.take i)) ns (.slice B now.length d) now vs) (fun _ _ iv _ _ => now.length - (intOf iv).toNat)
      case atStart => exact ⟨0, A, c, none, 0, [], rfl, Nat.zero_le _, rfl, by rw [HN0.out], by subst hw1; rw [HN0.out]; exact HI0.out⟩
      case round =>
        clear HI0 HN0
        subst hw1
        obtain ⟨i, A, c, B2, d2, ns, rfl, hi, rfl, rfl, hI⟩ := hrel
        rcases Nat.lt_or_ge i now.length with hlt | hge
        · have e1 : decide (i < now.length) = true := decide_eq_true hlt
          have e1' : decide ((i : Int) < (now.length : Int)) = true := decide_eq_true (by omega)
          have e2 : ((i : Int) < (now.length : Int)) := by omega
          obtain ⟨g, x, hx, hvx⟩ := hI.get hlt
          obtain ⟨ad, rfl, cv⟩ := hI.cell hvx
          have HXI := hide hx
          have HVI := hide hvx
          have HXL := hide (HNT.out x (List.mem_of_getElem? hx))
          have HTX := hide (Text_any x _ _ wr (hI.row hx hvx).src (by rw [HXL.out]; exact hfm))
          have HLT := hide hlt
          have HPU := hide (inLv_next (n := n) (l := cur) hx)
          have HNX := hide (nxL_next (n := n) (v := v) hx)
          have HNM := hide (show ∀ t ∈ nxL n v (now.take i), t.length ≤ 64 from fun t ht => by rw [nx_mem (fun u hu => HNT.out u (List.mem_of_mem_take hu)) t ht]; exact hfm)
          have HNLN := hide (show (nxL n v (now.take i)).length ≤ 128 from Nat.le_trans (nxL_len n v _) (by rw [List.length_take]; omega))
          have HNZ := hide (fun (h : ¬ v < n) => show nxL n v (now.take i) = [] from if_neg h)
          have hcul : (inLv n (now.take i) cur).length ≤ 100001000 := Nat.le_trans (inLv_len n _ _) (by rw [List.length_take]; omega)
          generalize inLv n (now.take i) cur = cu at *
          generalize nxL n v (now.take i) = N at *
          have HNM2 := hide (show ∀ t ∈ addT N (restR n x v false), t.length ≤ 64 from fun t ht => by
            rcases mem_addT.1 ht with h | rfl
            · exact HNM.out t h
            · rw [rest_len, HXL.out]; exact hfm)
          have HIwr := hide hI
          clear hI hx hvx hlt
          go_wp2_with fail
          with_reducible refine HTX.out.mono ?_
          rintro e wa ⟨rfl, hba⟩
          have HIwa := hide (HIwr.out.below hba)
          clear hba HTX HIwr cv
          have q1 := txt_beq x (allR n false)
          have q2 := txt_beq x (allR n true)
          by_cases c1 : x = allR n false
          · rw [decide_eq_true c1] at q1
            have HCU := hide (HPU.out.trans (putI_in (.inl c1)))
            clear c1 q2
            have HAL0 := hide (All_any n false wa hn)
            go_wp2_with fail
            with_reducible refine HAL0.out.mono ?_
            rintro e wh0 ⟨gh0, rfl, -, hrh0, hbh0⟩
            have HIh0 := hide (HIwa.out.below hbh0)
            have HTX0 := hide (Text_any (allR n false) _ _ wh0 hrh0.src (by unfold allR; rw [ofR_len]; exact hm))
            clear hrh0 hbh0 HAL0 HIwa
            go_wp2_with fail
            with_reducible refine HTX0.out.mono ?_
            rintro e wb ⟨rfl, hbt0⟩
            have HIwb := hide (HIh0.out.below hbt0)
            clear hbt0 HTX0 HIh0
            rcases Nat.lt_or_ge v n with hvn2 | hvn2
            · have p1 : decide (v < n) = true := decide_eq_true hvn2
              have p1' : decide ((v : Int) < (n : Int)) = true := decide_eq_true (by omega)
              have HNE := hide (HNX.out.trans (if_pos hvn2))
              have HRS1 := hide (Restrict_tab n x _ _ v false wb (HIwb.out.row HXI.out HVI.out).src hn hvn2 (by rw [HXL.out]; exact HFL.out))
              obtain ⟨ad1, ed1, cv1⟩ := HIwb.out.cell HVI.out
              cases ed1
              go_wp2_with fail
              with_reducible refine HRS1.out.mono ?_
              rintro e wk1 ⟨gk1, rfl, -, hrk1, hbk1⟩
              have HIk1 := hide (HIwb.out.below hbk1)
              have hsk1 := hbk1.size
              have HAD1 := hide (radd_any w1.heap.size B2 d2 N _ gk1 (restR n x v false) wk1 HIk1.out.N hrk1 HNM.out (by rw [rest_len, HXL.out]; exact hfm) (by have := HNLN.out; have := addT_len N (restR n x v false); omega) HIk1.out.lr)
              clear hrk1 hbk1 HRS1 cv1 HIwb
              go_wp2_with fail
              with_reducible refine HAD1.out.mono ?_
              rintro e wm1 ⟨Vm1, ms1, rfl, hT1, hG1, hB1⟩
              have HIwm1 := hide (HIk1.out.addN hT1 hG1 hB1)
              clear hT1 hG1 hB1 HAD1 HIk1
              have HRS2 := hide (Restrict_tab n x _ _ v true wm1 (HIwm1.out.row HXI.out HVI.out).src hn hvn2 (by rw [HXL.out]; exact HFL.out))
              obtain ⟨ad2, ed2, cv2⟩ := HIwm1.out.cell HVI.out
              cases ed2
              go_wp2_with fail
              with_reducible refine HRS2.out.mono ?_
              rintro e wk2 ⟨gk2, rfl, -, hrk2, hbk2⟩
              have HIk2 := hide (HIwm1.out.below hbk2)
              have hsk2 := hbk2.size
              obtain ⟨_, _, An2, cn2, -, ev2⟩ := HIk2.out.open_
              subst ev2
              have HAD2 := hide (radd_any w1.heap.size An2 cn2 (addT N (restR n x v false)) _ gk2 (restR n x v true) wk2 HIk2.out.N hrk2 HNM2.out (by rw [rest_len, HXL.out]; exact hfm) (by have := HNLN.out; have := addT_len N (restR n x v false); omega) HIk2.out.lr)
              clear hrk2 hbk2 HRS2 cv2 HIwm1
              go_wp2_with fail
              with_reducible refine HAD2.out.mono ?_
              rintro e wm2 ⟨Vm2, ms2, rfl, hT2, hG2, hB2⟩
              have HIwm2 := hide (HIk2.out.addN hT2 hG2 hB2)
              clear hT2 hG2 hB2 HAD2 HIk2
              obtain ⟨_, _, An3, cn3, -, ev3⟩ := HIwm2.out.open_
              subst ev3
              rw [← HNE.out] at HIwm2
              rw [← HNE.out]
              clear HNE HNM HNM2 HNX
              go_wp2_with fail
              go_roundw
              case rel => exact ⟨i + 1, A, c, An3, cn3, _, by go_num, HLT.out, by rw [HCU.out] <;> simp, rfl, by rw [HCU.out]; exact HIwm2.out⟩
              case measure => have := HLT.out; simp [intOf]; omega
            · have p1 : decide (v < n) = false := decide_eq_false (by omega)
              have p1' : decide ((v : Int) < (n : Int)) = false := decide_eq_false (by omega)
              have HNE := hide (show nxL n v (now.take (i + 1)) = N from by rw [HNX.out, if_neg (by omega)]; exact (HNZ.out (by omega)).symm)
              go_wp2_with fail
              go_roundw
              case rel => exact ⟨i + 1, A, c, B2, d2, _, by go_num, HLT.out, by rw [HCU.out] <;> simp, by rw [HNE.out], by rw [HCU.out, HNE.out]; exact HIwb.out⟩
              case measure => have := HLT.out; simp [intOf]; omega
          · rw [decide_eq_false c1] at q1
            have C1 := hide c1
            clear c1
            by_cases c2 : x = allR n true
            · rw [decide_eq_true c2] at q2
              have HCU := hide (HPU.out.trans (putI_in (.inr (.inl c2))))
              clear c2
              have HAL0 := hide (All_any n false wa hn)
              go_wp2_with fail
              with_reducible refine HAL0.out.mono ?_
              rintro e wh0 ⟨gh0, rfl, -, hrh0, hbh0⟩
              have HIh0 := hide (HIwa.out.below hbh0)
              have HTX0 := hide (Text_any (allR n false) _ _ wh0 hrh0.src (by unfold allR; rw [ofR_len]; exact hm))
              clear hrh0 hbh0 HAL0 HIwa
              go_wp2_with fail
              with_reducible refine HTX0.out.mono ?_
              rintro e wb ⟨rfl, hbt0⟩
              have HIwb := hide (HIh0.out.below hbt0)
              clear hbt0 HTX0 HIh0
              have HAL1 := hide (All_any n true wb hn)
              go_wp2_with fail
              with_reducible refine HAL1.out.mono ?_
              rintro e wh1 ⟨gh1, rfl, -, hrh1, hbh1⟩
              have HIh1 := hide (HIwb.out.below hbh1)
              have HTX1 := hide (Text_any (allR n true) _ _ wh1 hrh1.src (by unfold allR; rw [ofR_len]; exact hm))
              clear hrh1 hbh1 HAL1 HIwb
              go_wp2_with fail
              with_reducible refine HTX1.out.mono ?_
              rintro e wc ⟨rfl, hbt1⟩
              have HIwc := hide (HIh1.out.below hbt1)
              clear hbt1 HTX1 HIh1
              rcases Nat.lt_or_ge v n with hvn2 | hvn2
              · have p1 : decide (v < n) = true := decide_eq_true hvn2
                have p1' : decide ((v : Int) < (n : Int)) = true := decide_eq_true (by omega)
                have HNE := hide (HNX.out.trans (if_pos hvn2))
                have HRS1 := hide (Restrict_tab n x _ _ v false wc (HIwc.out.row HXI.out HVI.out).src hn hvn2 (by rw [HXL.out]; exact HFL.out))
                obtain ⟨ad1, ed1, cv1⟩ := HIwc.out.cell HVI.out
                cases ed1
                go_wp2_with fail
                with_reducible refine HRS1.out.mono ?_
                rintro e wk1 ⟨gk1, rfl, -, hrk1, hbk1⟩
                have HIk1 := hide (HIwc.out.below hbk1)
                have hsk1 := hbk1.size
                have HAD1 := hide (radd_any w1.heap.size B2 d2 N _ gk1 (restR n x v false) wk1 HIk1.out.N hrk1 HNM.out (by rw [rest_len, HXL.out]; exact hfm) (by have := HNLN.out; have := addT_len N (restR n x v false); omega) HIk1.out.lr)
                clear hrk1 hbk1 HRS1 cv1 HIwc
                go_wp2_with fail
                with_reducible refine HAD1.out.mono ?_
                rintro e wm1 ⟨Vm1, ms1, rfl, hT1, hG1, hB1⟩
                have HIwm1 := hide (HIk1.out.addN hT1 hG1 hB1)
                clear hT1 hG1 hB1 HAD1 HIk1
                have HRS2 := hide (Restrict_tab n x _ _ v true wm1 (HIwm1.out.row HXI.out HVI.out).src hn hvn2 (by rw [HXL.out]; exact HFL.out))
                obtain ⟨ad2, ed2, cv2⟩ := HIwm1.out.cell HVI.out
                cases ed2
                go_wp2_with fail
                with_reducible refine HRS2.out.mono ?_
                rintro e wk2 ⟨gk2, rfl, -, hrk2, hbk2⟩
                have HIk2 := hide (HIwm1.out.below hbk2)
                have hsk2 := hbk2.size
                obtain ⟨_, _, An2, cn2, -, ev2⟩ := HIk2.out.open_
                subst ev2
                have HAD2 := hide (radd_any w1.heap.size An2 cn2 (addT N (restR n x v false)) _ gk2 (restR n x v true) wk2 HIk2.out.N hrk2 HNM2.out (by rw [rest_len, HXL.out]; exact hfm) (by have := HNLN.out; have := addT_len N (restR n x v false); omega) HIk2.out.lr)
                clear hrk2 hbk2 HRS2 cv2 HIwm1
                go_wp2_with fail
                with_reducible refine HAD2.out.mono ?_
                rintro e wm2 ⟨Vm2, ms2, rfl, hT2, hG2, hB2⟩
                have HIwm2 := hide (HIk2.out.addN hT2 hG2 hB2)
                clear hT2 hG2 hB2 HAD2 HIk2
                obtain ⟨_, _, An3, cn3, -, ev3⟩ := HIwm2.out.open_
                subst ev3
                rw [← HNE.out] at HIwm2
                rw [← HNE.out]
                clear HNE HNM HNM2 HNX
                go_wp2_with fail
                go_roundw
                case rel => exact ⟨i + 1, A, c, An3, cn3, _, by go_num, HLT.out, by rw [HCU.out] <;> simp, rfl, by rw [HCU.out]; exact HIwm2.out⟩
                case measure => have := HLT.out; simp [intOf]; omega
              · have p1 : decide (v < n) = false := decide_eq_false (by omega)
                have p1' : decide ((v : Int) < (n : Int)) = false := decide_eq_false (by omega)
                have HNE := hide (show nxL n v (now.take (i + 1)) = N from by rw [HNX.out, if_neg (by omega)]; exact (HNZ.out (by omega)).symm)
                go_wp2_with fail
                go_roundw
                case rel => exact ⟨i + 1, A, c, B2, d2, _, by go_num, HLT.out, by rw [HCU.out] <;> simp, by rw [HNE.out], by rw [HCU.out, HNE.out]; exact HIwc.out⟩
                case measure => have := HLT.out; simp [intOf]; omega
            · rw [decide_eq_false c2] at q2
              have C2 := hide c2
              clear c2
              by_cases c3 : x ∈ cu
              · have HCU := hide (HPU.out.trans (putI_in (.inr (.inr c3))))
                have C3 := hide (show decide (x ∈ cu) = true from decide_eq_true c3)
                clear c3
                have HAL0 := hide (All_any n false wa hn)
                go_wp2_with fail
                with_reducible refine HAL0.out.mono ?_
                rintro e wh0 ⟨gh0, rfl, -, hrh0, hbh0⟩
                have HIh0 := hide (HIwa.out.below hbh0)
                have HTX0 := hide (Text_any (allR n false) _ _ wh0 hrh0.src (by unfold allR; rw [ofR_len]; exact hm))
                clear hrh0 hbh0 HAL0 HIwa
                go_wp2_with fail
                with_reducible refine HTX0.out.mono ?_
                rintro e wb ⟨rfl, hbt0⟩
                have HIwb := hide (HIh0.out.below hbt0)
                clear hbt0 HTX0 HIh0
                have HAL1 := hide (All_any n true wb hn)
                go_wp2_with fail
                with_reducible refine HAL1.out.mono ?_
                rintro e wh1 ⟨gh1, rfl, -, hrh1, hbh1⟩
                have HIh1 := hide (HIwb.out.below hbh1)
                have HTX1 := hide (Text_any (allR n true) _ _ wh1 hrh1.src (by unfold allR; rw [ofR_len]; exact hm))
                clear hrh1 hbh1 HAL1 HIwb
                go_wp2_with fail
                with_reducible refine HTX1.out.mono ?_
                rintro e wc ⟨rfl, hbt1⟩
                have HIwc := hide (HIh1.out.below hbt1)
                clear hbt1 HTX1 HIh1
                have HHS := hide (rhas_any A c cu x wc (src_of_own HIwc.out.H.own) (by omega))
                rw [C3.out] at HHS
                go_wp2_with fail
                with_reducible refine HHS.out.mono ?_
                rintro e wd ⟨rfl, hwd⟩
                subst wd
                clear HHS
                rcases Nat.lt_or_ge v n with hvn2 | hvn2
                · have p1 : decide (v < n) = true := decide_eq_true hvn2
                  have p1' : decide ((v : Int) < (n : Int)) = true := decide_eq_true (by omega)
                  have HNE := hide (HNX.out.trans (if_pos hvn2))
                  have HRS1 := hide (Restrict_tab n x _ _ v false wc (HIwc.out.row HXI.out HVI.out).src hn hvn2 (by rw [HXL.out]; exact HFL.out))
                  obtain ⟨ad1, ed1, cv1⟩ := HIwc.out.cell HVI.out
                  cases ed1
                  go_wp2_with fail
                  with_reducible refine HRS1.out.mono ?_
                  rintro e wk1 ⟨gk1, rfl, -, hrk1, hbk1⟩
                  have HIk1 := hide (HIwc.out.below hbk1)
                  have hsk1 := hbk1.size
                  have HAD1 := hide (radd_any w1.heap.size B2 d2 N _ gk1 (restR n x v false) wk1 HIk1.out.N hrk1 HNM.out (by rw [rest_len, HXL.out]; exact hfm) (by have := HNLN.out; have := addT_len N (restR n x v false); omega) HIk1.out.lr)
                  clear hrk1 hbk1 HRS1 cv1 HIwc
                  go_wp2_with fail
                  with_reducible refine HAD1.out.mono ?_
                  rintro e wm1 ⟨Vm1, ms1, rfl, hT1, hG1, hB1⟩
                  have HIwm1 := hide (HIk1.out.addN hT1 hG1 hB1)
                  clear hT1 hG1 hB1 HAD1 HIk1
                  have HRS2 := hide (Restrict_tab n x _ _ v true wm1 (HIwm1.out.row HXI.out HVI.out).src hn hvn2 (by rw [HXL.out]; exact HFL.out))
                  obtain ⟨ad2, ed2, cv2⟩ := HIwm1.out.cell HVI.out
                  cases ed2
                  go_wp2_with fail
                  with_reducible refine HRS2.out.mono ?_
                  rintro e wk2 ⟨gk2, rfl, -, hrk2, hbk2⟩
                  have HIk2 := hide (HIwm1.out.below hbk2)
                  have hsk2 := hbk2.size
                  obtain ⟨_, _, An2, cn2, -, ev2⟩ := HIk2.out.open_
                  subst ev2
                  have HAD2 := hide (radd_any w1.heap.size An2 cn2 (addT N (restR n x v false)) _ gk2 (restR n x v true) wk2 HIk2.out.N hrk2 HNM2.out (by rw [rest_len, HXL.out]; exact hfm) (by have := HNLN.out; have := addT_len N (restR n x v false); omega) HIk2.out.lr)
                  clear hrk2 hbk2 HRS2 cv2 HIwm1
                  go_wp2_with fail
                  with_reducible refine HAD2.out.mono ?_
                  rintro e wm2 ⟨Vm2, ms2, rfl, hT2, hG2, hB2⟩
                  have HIwm2 := hide (HIk2.out.addN hT2 hG2 hB2)
                  clear hT2 hG2 hB2 HAD2 HIk2
                  obtain ⟨_, _, An3, cn3, -, ev3⟩ := HIwm2.out.open_
                  subst ev3
                  rw [← HNE.out] at HIwm2
                  rw [← HNE.out]
                  clear HNE HNM HNM2 HNX
                  go_wp2_with fail
                  go_roundw
                  case rel => exact ⟨i + 1, A, c, An3, cn3, _, by go_num, HLT.out, by rw [HCU.out] <;> simp, rfl, by rw [HCU.out]; exact HIwm2.out⟩
                  case measure => have := HLT.out; simp [intOf]; omega
                · have p1 : decide (v < n) = false := decide_eq_false (by omega)
                  have p1' : decide ((v : Int) < (n : Int)) = false := decide_eq_false (by omega)
                  have HNE := hide (show nxL n v (now.take (i + 1)) = N from by rw [HNX.out, if_neg (by omega)]; exact (HNZ.out (by omega)).symm)
                  go_wp2_with fail
                  go_roundw
                  case rel => exact ⟨i + 1, A, c, B2, d2, _, by go_num, HLT.out, by rw [HCU.out] <;> simp, by rw [HNE.out], by rw [HCU.out, HNE.out]; exact HIwc.out⟩
                  case measure => have := HLT.out; simp [intOf]; omega
              · have HCU := hide (HPU.out.trans (putI_new C1.out C2.out c3))
                have C3 := hide (show decide (x ∈ cu) = false from decide_eq_false c3)
                clear c3
                have HAL0 := hide (All_any n false wa hn)
                go_wp2_with fail
                with_reducible refine HAL0.out.mono ?_
                rintro e wh0 ⟨gh0, rfl, -, hrh0, hbh0⟩
                have HIh0 := hide (HIwa.out.below hbh0)
                have HTX0 := hide (Text_any (allR n false) _ _ wh0 hrh0.src (by unfold allR; rw [ofR_len]; exact hm))
                clear hrh0 hbh0 HAL0 HIwa
                go_wp2_with fail
                with_reducible refine HTX0.out.mono ?_
                rintro e wb ⟨rfl, hbt0⟩
                have HIwb := hide (HIh0.out.below hbt0)
                clear hbt0 HTX0 HIh0
                have HAL1 := hide (All_any n true wb hn)
                go_wp2_with fail
                with_reducible refine HAL1.out.mono ?_
                rintro e wh1 ⟨gh1, rfl, -, hrh1, hbh1⟩
                have HIh1 := hide (HIwb.out.below hbh1)
                have HTX1 := hide (Text_any (allR n true) _ _ wh1 hrh1.src (by unfold allR; rw [ofR_len]; exact hm))
                clear hrh1 hbh1 HAL1 HIwb
                go_wp2_with fail
                with_reducible refine HTX1.out.mono ?_
                rintro e wc ⟨rfl, hbt1⟩
                have HIwc := hide (HIh1.out.below hbt1)
                clear hbt1 HTX1 HIh1
                have HHS := hide (rhas_any A c cu x wc (src_of_own HIwc.out.H.own) (by omega))
                rw [C3.out] at HHS
                go_wp2_with fail
                with_reducible refine HHS.out.mono ?_
                rintro e wd ⟨rfl, hwd⟩
                subst wd
                clear HHS
                have hbn := bel_one wc (.cells #[.string (txt x)] 9)
                have HIn := hide (HIwc.out.below hbn)
                have hlw := Nat.le_trans HIwc.out.H.hb HIwc.out.H.fr.size
                clear hbn HIwc
                go_wp2_with (at_builtin; go_must (refine wpL_hold rfl (.tmp 48) (.tmp 50) 35 rfl base 9 si _ 16 Tryz.underlying35 hs1 sz ss sb rfl _ cu.length (encT cu) rfl HIn.out.H.own ⟨wc.heap.size, 0, none⟩ 1 (.string (txt x)) rfl (cell_one (.string (txt x)) _ 0 _ rfl) rfl ?c63 ?cby ?cbase ?_))
                case c63 => unfold maxLen; omega
                case cby => omega
                case cbase => simp; omega
                intro v' w' hown hgr hk hold
                have HIwz := hide (HIn.out.push hown hgr (by rw [show (wc.alloc (.cells #[.string (txt x)] 9)).heap.size = wc.heap.size + 1 from by simp]; exact hk) hold)
                clear hown hgr hk hold HIn
                obtain ⟨A9, c9, _, _, ev9, -⟩ := HIwz.out.open_
                subst ev9
                obtain ⟨wz, hwz⟩ : ∃ y, y = w' := ⟨w', rfl⟩
                subst hwz
                rcases Nat.lt_or_ge v n with hvn2 | hvn2
                · have p1 : decide (v < n) = true := decide_eq_true hvn2
                  have p1' : decide ((v : Int) < (n : Int)) = true := decide_eq_true (by omega)
                  have HNE := hide (HNX.out.trans (if_pos hvn2))
                  have HRS1 := hide (Restrict_tab n x _ _ v false wz (HIwz.out.row HXI.out HVI.out).src hn hvn2 (by rw [HXL.out]; exact HFL.out))
                  obtain ⟨ad1, ed1, cv1⟩ := HIwz.out.cell HVI.out
                  cases ed1
                  go_wp2_with fail
                  with_reducible refine HRS1.out.mono ?_
                  rintro e wk1 ⟨gk1, rfl, -, hrk1, hbk1⟩
                  have HIk1 := hide (HIwz.out.below hbk1)
                  have hsk1 := hbk1.size
                  have HAD1 := hide (radd_any w1.heap.size B2 d2 N _ gk1 (restR n x v false) wk1 HIk1.out.N hrk1 HNM.out (by rw [rest_len, HXL.out]; exact hfm) (by have := HNLN.out; have := addT_len N (restR n x v false); omega) HIk1.out.lr)
                  clear hrk1 hbk1 HRS1 cv1 HIwz
                  go_wp2_with fail
                  with_reducible refine HAD1.out.mono ?_
                  rintro e wm1 ⟨Vm1, ms1, rfl, hT1, hG1, hB1⟩
                  have HIwm1 := hide (HIk1.out.addN hT1 hG1 hB1)
                  clear hT1 hG1 hB1 HAD1 HIk1
                  have HRS2 := hide (Restrict_tab n x _ _ v true wm1 (HIwm1.out.row HXI.out HVI.out).src hn hvn2 (by rw [HXL.out]; exact HFL.out))
                  obtain ⟨ad2, ed2, cv2⟩ := HIwm1.out.cell HVI.out
                  cases ed2
                  go_wp2_with fail
                  with_reducible refine HRS2.out.mono ?_
                  rintro e wk2 ⟨gk2, rfl, -, hrk2, hbk2⟩
                  have HIk2 := hide (HIwm1.out.below hbk2)
                  have hsk2 := hbk2.size
                  obtain ⟨_, _, An2, cn2, -, ev2⟩ := HIk2.out.open_
                  subst ev2
                  have HAD2 := hide (radd_any w1.heap.size An2 cn2 (addT N (restR n x v false)) _ gk2 (restR n x v true) wk2 HIk2.out.N hrk2 HNM2.out (by rw [rest_len, HXL.out]; exact hfm) (by have := HNLN.out; have := addT_len N (restR n x v false); omega) HIk2.out.lr)
                  clear hrk2 hbk2 HRS2 cv2 HIwm1
                  go_wp2_with fail
                  with_reducible refine HAD2.out.mono ?_
                  rintro e wm2 ⟨Vm2, ms2, rfl, hT2, hG2, hB2⟩
                  have HIwm2 := hide (HIk2.out.addN hT2 hG2 hB2)
                  clear hT2 hG2 hB2 HAD2 HIk2
                  obtain ⟨_, _, An3, cn3, -, ev3⟩ := HIwm2.out.open_
                  subst ev3
                  rw [← HNE.out] at HIwm2
                  rw [← HNE.out]
                  clear HNE HNM HNM2 HNX
                  go_wp2_with fail
                  go_roundw
                  case rel => exact ⟨i + 1, A9, c9, An3, cn3, _, by go_num, HLT.out, by rw [HCU.out] <;> simp, rfl, by rw [HCU.out]; exact HIwm2.out⟩
                  case measure => have := HLT.out; simp [intOf]; omega
                · have p1 : decide (v < n) = false := decide_eq_false (by omega)
                  have p1' : decide ((v : Int) < (n : Int)) = false := decide_eq_false (by omega)
                  have HNE := hide (show nxL n v (now.take (i + 1)) = N from by rw [HNX.out, if_neg (by omega)]; exact (HNZ.out (by omega)).symm)
                  go_wp2_with fail
                  go_roundw
                  case rel => exact ⟨i + 1, A9, c9, B2, d2, _, by go_num, HLT.out, by rw [HCU.out] <;> simp, by rw [HNE.out], by rw [HCU.out, HNE.out]; exact HIwz.out⟩
                  case measure => have := HLT.out; simp [intOf]; omega
        · obtain rfl : i = now.length := by omega
          have e1 : decide (now.length < now.length) = false := decide_eq_false (by omega)
          have e1' : decide ((now.length : Int) < (now.length : Int)) = false := decide_eq_false (by omega)
          have ht := List.take_length (l := now)
          rw [ht] at hI
          rw [ht]
          have HIX := hide hI
          have HCL := hide (inLv_len n now cur)
          have HNLN := hide (nxL_len n v now)
          have HNM := hide (nx_mem (n := n) (v := v) HNT.out)
          have HPW := hide (show v < n → (nxL n v now).length ≤ 2 ^ (v + 1) from fun _ => by have h1 := nxL_len n v now; have h2 := HNL.out; rw [Nat.pow_succ]; omega)
          have HPZ := hide (show ¬ v < n → (nxL n v now).length ≤ 2 ^ (v + 1) from fun h => by unfold nxL; rw [if_neg h]; exact Nat.zero_le _)
          clear hI ht hge
          go_wp2_with fail
          go_roundw
          case rel => exact ⟨v + 1, _, _, _, _, inLv n now cur, nxL n v now, ns, by go_num, by omega, rfl, rfl, HIX.out.H, HIX.out.N.low HIX.out.l1, if h : v < n then HPW.out h else HPZ.out h, HNM.out, by have := HCL.out; omega, fun h => by rw [HIN.out, inG_step (by omega)], fun h => by rw [HIN.out]; obtain rfl : v = n := (by omega); rw [inG_last]⟩
          case measure => simp [intOf]; omega
end Go.Proofs.YtgfjdkkfgclhjaaGreat.Bd
/- The document's Support and At, walked. -/
namespace Go.Proofs.YtgfjdkkfgclhjaaGreat.Bd
open Go.RowKit Go.Proofs.YtgfjdkkfgclhjaaGreat Go.Proofs.YtgfjdkkfgclhjaaGreat.Lx Go.Maps

/-- a row of numbers, of one's own -/
abbrev IRow (base : Nat) (w : World) (V : Value) (l : List Nat) : Prop := w.ownsRow base 3 1 V l.length ((encL l).map encI)
abbrev IRowOut (l : List Nat) (w : World) (e : Ending) (w' : World) : Prop := ∃ V, e = .returned V ∧ IRow w.heap.size w' V l ∧ Below w.heap.size w w'
theorem infoInt : (Tryz.prog.info? 3).map (fun i => (i.zero, i.size, i.bytes)) = some (some (.int .i64 0), 1, 8) := by kernel_rfl
theorem encI_snoc (ms : List Nat) (a : Nat) : (encL ms).map encI ++ [.int .i64 a] = (encL (ms ++ [a])).map encI := by simp [encL, encI]
theorem encI_two (ms : List Nat) (a b : Nat) : (encL ms).map encI ++ [.int .i64 a, .int .i64 b] = (encL (ms ++ [a, b])).map encI := by simp [encL, encI]
theorem irow_snoc {base a d : Nat} {B : Option Addr} {w : World} {ms : List Nat} (h : w.ownsRow base 3 1 (.slice B (ms.length + 1) d) (ms.length + 1) ((encL ms).map encI ++ [.int .i64 a])) : IRow base w (.slice B (ms ++ [a]).length d) (ms ++ [a]) := by
  rw [encI_snoc] at h
  have e : (ms ++ [a]).length = ms.length + 1 := by simp
  show w.ownsRow base _ 1 (.slice B (ms ++ [a]).length d) (ms ++ [a]).length _
  rw [e]
  exact h
theorem irow_two {base a b d : Nat} {B : Option Addr} {w : World} {ms : List Nat} (h : w.ownsRow base 3 1 (.slice B (ms.length + 2) d) (ms.length + 2) ((encL ms).map encI ++ [.int .i64 a, .int .i64 b])) : IRow base w (.slice B (ms ++ [a, b]).length d) (ms ++ [a, b]) := by
  rw [encI_two] at h
  have e : (ms ++ [a, b]).length = ms.length + 2 := by simp
  show w.ownsRow base _ 1 (.slice B (ms ++ [a, b]).length d) (ms ++ [a, b]).length _
  rw [e]
  exact h
theorem IRow.nil (base : Nat) (w : World) : IRow base w (.slice none 0 0) [] := ⟨rfl, .inl ⟨rfl, rfl⟩⟩
theorem IRow.src {base c : Nat} {A : Option Addr} {w : World} {l : List Nat} (h : IRow base w (.slice A l.length c) l) : Src w A l.length c 1 ((encL l).map encI) := src_of_own h
theorem enc_at {l : List Nat} {i x : Nat} (h : l[i]? = some x) : (encL l)[i]? = some (x : Int) := by unfold encL; rw [List.getElem?_map, h]; rfl
def supP (n : Nat) (f : Tb) (v : Nat) : Bool := decide (restR n f v false ≠ restR n f v true)
theorem supR_len (n : Nat) (f : Tb) (v : Nat) : ((List.range v).filter (supP n f)).length ≤ v := by have := List.length_filter_le (supP n f) (List.range v); simpa using this
theorem sup_next (n : Nat) (f : Tb) (v : Nat) : (List.range (v + 1)).filter (supP n f) = (List.range v).filter (supP n f) ++ if supP n f v = true then [v] else [] := by
  rw [List.range_succ, List.filter_append]
  congr 1
  rw [List.filter_cons]
  split <;> rfl
set_option maxHeartbeats 4000000 in
set_option maxRecDepth 100000 in
theorem Support_tab (n : Nat) (f : Tb) (A : Option Addr) (c : Nat) (w : World) (hn : n ≤ 6) (hf : Src w A f.length c 1 (f.map Value.bool)) (hl : f.length = 2 ^ n) :
    Calls Tryz.prog 21 #[.int .i64 n, .slice A f.length c] w (IRowOut (supR n f) w) := by
  obtain ⟨ti, ht1, tz, tsz, tb⟩ := info_at infoInt
  have hp := pow_le6 hn
  have HF := hide hf
  have HRS := hide (fun (v : Nat) (b : Bool) (w' : World) (h : Below w.heap.size w w') (hv : v < n) => Restrict_tab n f A c v b w' (hf.below h) hn hv hl)
  have HFL := hide (show f.length ≤ 64 from by omega)
  have HSP := hide (show supR n f = (List.range n).filter (supP n f) from rfl)
  clear hf hl hp
  go_enter Tryz.func21, Tryz.ntmps21
  go_wp2_with fail
  go_loopw [5, 6] (fun o j wr => ∃ (v : Nat) (B : Option Addr) (d : Nat), j = .int .i64 v ∧ v ≤ n ∧ o = .slice B ((List.range v).filter (supP n f)).length d ∧ IRow w.heap.size wr (.slice B ((List.range v).filter (supP n f)).length d) ((List.range v).filter (supP n f)) ∧ Below w.heap.size w wr) (fun _ j _ => n - (intOf j).toNat)
  case atStart => exact ⟨0, none, 0, rfl, Nat.zero_le _, rfl, IRow.nil _ _, Below.refl _ _⟩
  case round =>
    obtain ⟨v, B, d, rfl, hv, rfl, hI, hb⟩ := hrel
    have HI := hide hI
    have HB := hide hb
    clear hI hb
    rcases Nat.lt_or_ge v n with hlt | hge
    · have d1 : decide (v < n) = true := decide_eq_true hlt
      have d1' : decide ((v : Int) < (n : Int)) = true := decide_eq_true (by omega)
      have HNX := hide (sup_next n f v)
      have hsl := supR_len n f v
      generalize (List.range v).filter (supP n f) = ms at *
      have HLT := hide hlt
      have HR1 := hide (HRS.out v false wr HB.out hlt)
      have hq := txt_beq (restR n f v false) (restR n f v true)
      clear hlt
      go_wp2_with fail
      with_reducible refine HR1.out.mono ?_
      rintro e w1 ⟨g1, rfl, -, hr1, hb1⟩
      have HB1 := hide (below_wide HB.out hb1)
      have HI1 := hide (own_below HI.out hb1)
      have HT1 := hide (Text_any (restR n f v false) _ _ w1 hr1.src (by rw [rest_len]; exact HFL.out))
      clear hr1 hb1 HR1 HB HI
      go_wp2_with fail
      with_reducible refine HT1.out.mono ?_
      rintro e w2 ⟨rfl, hb2⟩
      have HB2 := hide (below_wide HB1.out hb2)
      have HI2 := hide (own_below HI1.out hb2)
      have HR2 := hide (HRS.out v true w2 HB2.out HLT.out)
      clear hb2 HT1 HB1 HI1
      go_wp2_with fail
      with_reducible refine HR2.out.mono ?_
      rintro e w3 ⟨g3, rfl, -, hr3, hb3⟩
      have HB3 := hide (below_wide HB2.out hb3)
      have HI3 := hide (own_below HI2.out hb3)
      have HT3 := hide (Text_any (restR n f v true) _ _ w3 hr3.src (by rw [rest_len]; exact HFL.out))
      clear hr3 hb3 HR2 HB2 HI2
      go_wp2_with fail
      with_reducible refine HT3.out.mono ?_
      rintro e w4 ⟨rfl, hb4⟩
      have HB4 := hide (below_wide HB3.out hb4)
      have HI4 := hide (own_below HI3.out hb4)
      clear hb4 HT3 HB3 HI3
      by_cases hr : restR n f v false = restR n f v true
      · rw [decide_eq_true hr] at hq
        have HN2 := hide (show (List.range (v + 1)).filter (supP n f) = ms from by
          rw [HNX.out, if_neg (by unfold supP; rw [decide_eq_false (by rw [hr]; simp)]; decide), List.append_nil])
        clear hr
        go_wp2_with fail
        go_roundw
        case rel => exact ⟨v + 1, B, d, by go_num, HLT.out, by rw [HN2.out], by rw [HN2.out]; exact HI4.out, HB4.out⟩
        case measure => have := HLT.out; simp [intOf]; omega
      · rw [decide_eq_false hr] at hq
        have HN2 := hide (show (List.range (v + 1)).filter (supP n f) = ms ++ [v] from by
          rw [HNX.out, if_pos (by unfold supP; exact decide_eq_true hr)])
        have hbx := HB4.out.alloc HB4.out.size (.cells #[.int .i64 v] 3)
        have HBX := hide hbx
        have HIX := hide (own_below HI4.out (bel_one w4 (.cells #[.int .i64 v] 3)))
        have hsz := HB4.out.size
        clear hr hbx HI4
        go_wp2_with (at_builtin; go_must (refine wpList_append_own_at _ rfl (.tmp 23) (.tmp 25) 30 rfl w.heap.size 3 ti _ 1 8 Tryz.underlying30 ht1 tz tsz tb rfl (by decide) _ ms.length ((encL ms).map encI) rfl HIX.out ⟨w4.heap.size, 0, none⟩ 1 1 [.int .i64 v] rfl rfl (cell_one _ _) ?ones ?c63 ?cby ?cbase ?_))
        case ones => intro u hu; rw [List.mem_singleton.1 hu]; rfl
        case c63 => unfold maxLen; omega
        case cby => omega
        case cbase => simp; omega
        intro v' w' hown hgr _ _
        obtain ⟨B9, d9, rfl⟩ := own_slice hown
        have HE := hide (show IRow w.heap.size w' (.slice B9 (ms ++ [v]).length d9) (ms ++ [v]) ∧ Below w.heap.size w w' from ⟨irow_snoc hown, HBX.out.grown hgr HBX.out.size (fun k hk => (HIX.out.lt k hk).1)⟩)
        clear hown hgr
        go_wp2_with fail
        go_roundw
        case rel => exact ⟨v + 1, B9, d9, by go_num, HLT.out, by rw [HN2.out] <;> simp, by rw [HN2.out]; exact HE.out.1, HE.out.2⟩
        case measure => have := HLT.out; simp [intOf]; omega
    · obtain rfl : v = n := by omega
      have d1 : decide (v < v) = false := decide_eq_false (by omega)
      have d1' : decide ((v : Int) < (v : Int)) = false := decide_eq_false (by omega)
      have HE := hide (show IRowOut (supR v f) w (.returned (.slice B ((List.range v).filter (supP v f)).length d)) wr from ⟨_, rfl, by rw [HSP.out]; exact HI.out, HB.out⟩)
      go_wp2_with fail
      go_ret
      exact HE.out
set_option maxRecDepth 100000 in
theorem At_tab (n : Nat) (f : Tb) (vals : List Bool) (A1 A2 : Option Addr) (c1 c2 : Nat) (w : World) (hn : n ≤ 6) (h1 : Src w A1 f.length c1 1 (f.map Value.bool)) (hl : f.length = 2 ^ n) (h2 : Src w A2 vals.length c2 1 (vals.map Value.bool)) (hv : vals.length = n) :
    Calls Tryz.prog 19 #[.int .i64 n, .slice A1 f.length c1, .slice A2 vals.length c2] w fun e w' => e = .returned (.bool (atR n f vals)) ∧ w' = w := by
  have H1 := hide h1
  have H2 := hide h2
  have HV := hide hv
  have HL := hide hl
  have HAT := hide (fun k (h : k ≤ n) => atRow_lt vals k h)
  have HST := hide (fun (i v : Nat) (b : Bool) (h : i < 2 ^ n) (hv : v < n) => set_any n i v b w (by omega) hv h)
  have hl64 : f.length ≤ 64 := by have := pow_le6 hn; omega
  clear h1 h2 hv hl
  go_enter Tryz.func19, Tryz.ntmps19
  go_wp2_with fail
  go_loopw [7, 8] (fun o j wr => ∃ k : Nat, j = .int .i64 k ∧ k ≤ n ∧ o = .int .i64 (atRow n vals k : Nat) ∧ wr = w) (fun _ j _ => n - (intOf j).toNat)
  case atStart => exact ⟨0, rfl, Nat.zero_le _, rfl, rfl⟩
  case round =>
    obtain ⟨k, rfl, hk, rfl, rfl⟩ := hrel
    rcases Nat.lt_or_ge k n with hlt | hge
    · have d1 : decide (k < n) = true := decide_eq_true hlt
      have d1' : decide ((k : Int) < (n : Int)) = true := decide_eq_true (by omega)
      obtain ⟨b, hb⟩ : ∃ b, vals[k]? = some b := ⟨_, List.getElem?_eq_getElem (by have := HV.out; omega)⟩
      have d2 : ((k : Int) < (vals.length : Int)) := by have := HV.out; omega
      obtain ⟨ad, rfl, cv⟩ := srcB_at H2.out hb
      have HS := hide (HST.out (atRow n vals k) k b (HAT.out k hk) hlt)
      have HN := hide (show atRow n vals (k + 1) = setR n (atRow n vals k) k b from by rw [atRow, List.getD_eq_getElem?_getD, hb]; rfl)
      generalize atRow n vals k = r at *
      have HLT := hide hlt
      clear hlt hb
      go_wp2_with fail
      with_reducible refine HS.out.mono ?_
      rintro e w1 ⟨rfl, hw⟩
      subst w1
      go_wp2_with fail
      go_roundw
      case rel => exact ⟨k + 1, by go_num, HLT.out, by rw [HN.out], by first | rfl | trivial⟩
      case measure => have := HLT.out; simp [intOf]; omega
    · obtain rfl : k = n := by omega
      have d1 : decide (k < k) = false := decide_eq_false (by omega)
      have d1' : decide ((k : Int) < (k : Int)) = false := decide_eq_false (by omega)
      have hr := HAT.out k hk
      rw [← HL.out] at hr
      have HE := hide (show atR k f vals = f.getD (atRow k vals k) false from rfl)
      generalize atRow k vals k = r at *
      obtain ⟨b, hb⟩ : ∃ b, f[r]? = some b := ⟨_, List.getElem?_eq_getElem hr⟩
      have d2 : ((r : Int) < (f.length : Int)) := by omega
      obtain ⟨ad, rfl, cv⟩ := srcB_at H1.out hb
      have HE2 := hide (show atR k f vals = b from by rw [HE.out, List.getD_eq_getElem?_getD, hb]; rfl)
      clear hb hr
      go_wp2_with fail
      go_ret
      exact ⟨by rw [HE2.out]; rfl, rfl⟩
end Go.Proofs.YtgfjdkkfgclhjaaGreat.Bd
/- Regions that draw their order and end in stores: what reckons and what loads is taken first, while what is loaded stands as it stood; then each of a few orders one by one. No program is in sight. -/
namespace Go.Proofs.YtgfjdkkfgclhjaaGreat
open Go.RowKit (Hid)

section
variable {P : Program} {ops : Array Oper} {Q : Exit → Act → World → Prop} {md : Region.Mode} {S : World → Prop} {U : Nat → Bool}
/-- whichever order: behind each operation but the late ones, S -/
def wpAnyU (P : Program) (md : Region.Mode) (ops : Array Oper) (Q : Exit → Act → World → Prop) (S : World → Prop) (U : Nat → Bool) : Nat → Array Bool → Act → World → Prop
  | 0, listed, a, w => Region.ready md ops listed = [] ∧ Q .normal a w
  | fuel + 1, listed, a, w => (Region.ready md ops listed = [] → Q .normal a w) ∧
    ∀ i ∈ Region.ready md ops listed, wpOp P ops Q i (fun a' w' => (U i = false → S w') ∧ wpAnyU P md ops Q S U fuel (listed.setIfInBounds i true) a' w') a w
theorem wpAny_of_U : ∀ (fuel : Nat) (listed : Array Bool) (a : Act) (w : World), wpAnyU P md ops Q S U fuel listed a w → wpAny P md ops Q fuel listed a w
  | 0, _, _, _, h => h
  | fuel + 1, _, _, _, h => ⟨h.1, fun i hi => wpOp_mono (fun a' w' h' => wpAny_of_U fuel _ a' w' h'.2) (h.2 i hi)⟩
end

/-- a world of the class, or the first one -/
noncomputable def pin (S : World → Prop) (w x : World) : World := by classical exact if S x then x else w
theorem pin_in {S : World → Prop} {w : World} (h : S w) (x : World) : S (pin S w x) := by
  unfold pin
  split
  · assumption
  · exact h
theorem pin_of {S : World → Prop} {w x : World} (h : S x) : x = pin S w x := by
  unfold pin
  rw [if_pos h]
abbrev Pin (S : World → Prop) (w : World) : World → Prop := fun w' => ∃ x, w' = pin S w x
theorem pin_mem {S : World → Prop} {w x : World} (h : S x) : Pin S w x := ⟨x, pin_of h⟩

def calmL (o : Oper) : Bool := calmB o || (match o.op with | .load .. => true | _ => false)
theorem calmL_run {P : Program} {o : Oper} {ρ : Operand → Value} (w : World) (hp : calmL o = true) : (∃ u w', (execOp ρ o).run P w = .ok (.value u) w') ∨ ∃ x w', (execOp ρ o).run P w = .halt x w' := by
  unfold calmL at hp
  rw [Bool.or_eq_true] at hp
  refine light_run w ?_
  unfold lightB
  rw [Bool.or_eq_true]
  rcases hp with hp | hp
  · exact .inl hp
  · refine .inr ?_
    split at hp
    · rename_i ho; rw [ho]
    · cases hp
theorem yields_in {P : Program} {ops : Array Oper} {C : World → Prop} {o : Oper} {a : Act} {K : Act → Prop} (hp : calmL o = true) (hw : Region.wanted o (yielded ops a.tmps) = true) (h : o.quiet P a C K) :
    ∃ v, YieldsIf P ops C o v a ∧ K (a.put o.dst v) := by
  obtain ⟨v, h1, h2⟩ := h
  refine ⟨v, .inl ⟨hw, fun w hC => ?_⟩, h2⟩
  have h3 := h1 w hC
  unfold Oper.quietAt at h3
  rcases calmL_run (P := P) (ρ := a.eval) w hp with ⟨u, w', e⟩ | ⟨x, w', e⟩
  · rw [e] at h3 ⊢
    obtain ⟨rfl, rfl⟩ := h3
    rfl
  · rw [e] at h3
    cases h3

inductive PickU (l : List Oper) (U : Nat → Bool) : List Nat → List (Oper × Bool) → Prop
  | nil : PickU l U [] []
  | cons {k : Nat} {o : Oper} {b : Bool} {ks : List Nat} {os : List (Oper × Bool)} : AtN l k o → U k = b → PickU l U ks os → PickU l U (k :: ks) ((o, b) :: os)
inductive PickAllU (l : List Oper) (U : Nat → Bool) : List (List Nat) → List (List (Oper × Bool)) → Prop
  | nil : PickAllU l U [] []
  | cons {ps : List Nat} {os : List (Oper × Bool)} {pss : List (List Nat)} {oss : List (List (Oper × Bool))} : PickU l U ps os → PickAllU l U pss oss → PickAllU l U (ps :: pss) (os :: oss)
theorem PickAllU.get {l : List Oper} {U : Nat → Bool} {pss : List (List Nat)} {oss : List (List (Oper × Bool))} (h : PickAllU l U pss oss) : ∀ ps ∈ pss, ∃ os ∈ oss, PickU l U ps os := by
  induction h with
  | nil => intro ps h; cases h
  | cons h1 _ ih =>
    intro ps hp
    rcases List.mem_cons.1 hp with rfl | hp
    · exact ⟨_, by simp, h1⟩
    · obtain ⟨os, ho, hk⟩ := ih ps hp
      exact ⟨os, by simp [ho], hk⟩
def EachU (p : List (Oper × Bool) → Prop) : List (List (Oper × Bool)) → Prop
  | [] => True
  | [x] => p x
  | x :: xs => p x ∧ EachU p xs
theorem EachU.one {p : List (Oper × Bool) → Prop} {x : List (Oper × Bool)} (h : p x) : EachU p [x] := h
theorem EachU.all {p : List (Oper × Bool) → Prop} : ∀ {xs : List (List (Oper × Bool))}, EachU p xs → ∀ x ∈ xs, p x := by
  intro xs
  induction xs with
  | nil => intro _ x hx; cases hx
  | cons y ys ih =>
    intro h x hx
    cases ys with
    | nil =>
      obtain rfl : x = y := by simpa using hx
      exact h
    | cons z zs =>
      rcases List.mem_cons.1 hx with rfl | hx
      · exact h.1
      · exact ih h.2 x hx
section
variable {P : Program} {md : Region.Mode} {l : List Oper} {Q : Exit → Act → World → Prop} {S : World → Prop} {U : Nat → Bool}
/-- the late ones wait for number k -/
def waitsB (md : Region.Mode) (ops : Array Oper) (U : Nat → Bool) (k : Nat) : Bool := (List.range ops.size).all fun j => !U j || ((ops[j]?).map fun o => o.after.any fun e => Region.binds md e && decide (e.on = k)).getD true
def takenU (md : Region.Mode) (ops : Array Oper) (U : Nat → Bool) (n : Nat) (pss : List (List Nat)) : List Nat → Array Bool → Bool
  | [], listed => pathsB md ops n listed pss
  | k :: hs, listed => (Region.ready md ops listed).contains k && Region.free md ops listed k && ((ops[k]?).map calmL).getD false && waitsB md ops U k && takenU md ops U n pss hs (listed.setIfInBounds k true)
end
/-! ### a tree of orders: what may be taken is taken, also behind an operation; what may come up in two ways forks -/
def Closed (md : Region.Mode) (ops : Array Oper) (listed : Array Bool) : Prop := ∀ (i : Nat) (o : Oper), ops[i]? = some o → listed.getD i true = true → ∀ e ∈ o.after, Region.binds md e = true → listed.getD e.on false = true
theorem getD_up {listed : Array Bool} {x j : Nat} (h : listed.getD x false = true) : (listed.setIfInBounds j true).getD x false = true := by
  by_cases e : j = x
  · subst e
    by_cases hj : j < listed.size
    · simp [hj]
    · simp [hj] at h
  · rw [Array.getD_eq_getD_getElem?, Array.getElem?_setIfInBounds_ne e, ← Array.getD_eq_getD_getElem?]
    exact h
theorem closed_set {md : Region.Mode} {ops : Array Oper} {listed : Array Bool} {j : Nat} (hc : Closed md ops listed) (hj : j ∈ Region.ready md ops listed) : Closed md ops (listed.setIfInBounds j true) := by
  intro i o hi hl e he hb
  obtain ⟨_, oj, hoj, hall⟩ := mem_ready.1 hj
  by_cases hij : j = i
  · subst hij
    rw [hi] at hoj
    cases hoj
    exact getD_up (hall e he hb)
  · rw [getD_set_ne true hij] at hl
    exact getD_up (hc i o hi hl e he hb)
theorem closed_start (md : Region.Mode) (ops : Array Oper) : Closed md ops (Array.replicate ops.size false) := by
  intro i o hi hl
  have h1 : i < ops.size := by
    rcases Nat.lt_or_ge i ops.size with h | h
    · exact h
    · rw [Array.getElem?_eq_none h] at hi; cases hi
  simp [h1] at hl
/-- operation j waits for number k, at once or through others -/
def chainB (md : Region.Mode) (ops : Array Oper) (k : Nat) : Nat → Nat → Bool
  | 0, _ => false
  | f + 1, j => ((ops[j]?).map fun o => o.after.any fun e => Region.binds md e && (decide (e.on = k) || chainB md ops k f e.on)).getD false
theorem chain_listed {md : Region.Mode} {ops : Array Oper} {listed : Array Bool} {k : Nat} (hc : Closed md ops listed) : ∀ (f j : Nat) (o : Oper), chainB md ops k f j = true → ops[j]? = some o → (∀ e ∈ o.after, Region.binds md e = true → listed.getD e.on false = true) → listed.getD k false = true := by
  intro f
  induction f with
  | zero => intro j o h; cases h
  | succ f ih =>
    intro j o h ho hall
    unfold chainB at h
    rw [ho] at h
    simp only [Option.map_some, Option.getD_some] at h
    obtain ⟨e, he, h2⟩ := Array.any_eq_true'.1 h
    rw [Bool.and_eq_true, Bool.or_eq_true] at h2
    have h3 := hall e he h2.1
    rcases h2.2 with h4 | h4
    · rw [← of_decide_eq_true h4]
      exact h3
    · cases hoe : ops[e.on]? with
      | none =>
        cases f with
        | zero => cases h4
        | succ f => unfold chainB at h4; rw [hoe] at h4; cases h4
      | some oe =>
        refine ih e.on oe h4 hoe (hc e.on oe hoe ?_)
        rcases Nat.lt_or_ge e.on listed.size with h' | h'
        · simp [h'] at h3 ⊢; exact h3
        · simp [Array.getElem?_eq_none h'] at h3
inductive RT where
  | done : RT
  | take (ks : List Nat) (t : RT) : RT
  | step (i : Nat) (t : RT) : RT
  | fork (i : Nat) (t : RT) (j : Nat) (u : RT) : RT
  | fork3 (i : Nat) (t : RT) (j : Nat) (u : RT) (k : Nat) (v : RT) : RT
inductive RO where
  | done : RO
  | take (os : List Oper) (t : RO) : RO
  | step (o : Oper) (u : Bool) (t : RO) : RO
  | fork (o : Oper) (u : Bool) (t : RO) (o' : Oper) (u' : Bool) (t' : RO) : RO
  | fork3 (o : Oper) (u : Bool) (t : RO) (o' : Oper) (u' : Bool) (t' : RO) (o'' : Oper) (u'' : Bool) (t'' : RO) : RO
inductive PickT (l : List Oper) (U : Nat → Bool) : RT → RO → Prop
  | done : PickT l U .done .done
  | take {ks : List Nat} {os : List Oper} {t : RT} {t' : RO} : Picks l ks os → PickT l U t t' → PickT l U (.take ks t) (.take os t')
  | step {i : Nat} {o : Oper} {b : Bool} {t : RT} {t' : RO} : AtN l i o → U i = b → PickT l U t t' → PickT l U (.step i t) (.step o b t')
  | fork {i j : Nat} {o o' : Oper} {b b' : Bool} {t u : RT} {t' u' : RO} : AtN l i o → U i = b → PickT l U t t' → AtN l j o' → U j = b' → PickT l U u u' → PickT l U (.fork i t j u) (.fork o b t' o' b' u')
  | fork3 {i j k : Nat} {o o' o'' : Oper} {b b' b'' : Bool} {t u v : RT} {t' u' v' : RO} : AtN l i o → U i = b → PickT l U t t' → AtN l j o' → U j = b' → PickT l U u u' → AtN l k o'' → U k = b'' → PickT l U v v' → PickT l U (.fork3 i t j u k v) (.fork3 o b t' o' b' u' o'' b'' v')
def RT.n : RT → Nat
  | .done => 0
  | .take ks t => ks.length + t.n
  | .step _ t => t.n + 1
  | .fork _ t _ _ => t.n + 1
  | .fork3 _ t _ _ _ _ => t.n + 1
def lateB (md : Region.Mode) (ops : Array Oper) (U : Nat → Bool) (k : Nat) : Bool := (List.range ops.size).all fun j => !U j || chainB md ops k ops.size j
def takesB (md : Region.Mode) (ops : Array Oper) (U : Nat → Bool) : List Nat → Array Bool → Bool
  | [], _ => true
  | k :: hs, listed => (Region.ready md ops listed).contains k && Region.free md ops listed k && ((ops[k]?).map calmL).getD false && lateB md ops U k && takesB md ops U hs (listed.setIfInBounds k true)
def listAll (ks : List Nat) (listed : Array Bool) : Array Bool := ks.foldl (fun l k => l.setIfInBounds k true) listed
def checkT (md : Region.Mode) (ops : Array Oper) (U : Nat → Bool) : RT → Bool → Array Bool → Bool
  | .done, _, listed => (Region.ready md ops listed).isEmpty
  | .take ks t, ok, listed => ok && takesB md ops U ks listed && checkT md ops U t ok (listAll ks listed)
  | .step i t, ok, listed => decide (Region.ready md ops listed = [i]) && checkT md ops U t (ok && !U i) (listed.setIfInBounds i true)
  | .fork i t j u, ok, listed => decide (Region.ready md ops listed = [i, j]) && decide (t.n = u.n) && checkT md ops U t (ok && !U i) (listed.setIfInBounds i true) && checkT md ops U u (ok && !U j) (listed.setIfInBounds j true)
  | .fork3 i t j u k v, ok, listed => decide (Region.ready md ops listed = [i, j, k]) && decide (t.n = u.n) && decide (t.n = v.n) && checkT md ops U t (ok && !U i) (listed.setIfInBounds i true) && checkT md ops U u (ok && !U j) (listed.setIfInBounds j true) && checkT md ops U v (ok && !U k) (listed.setIfInBounds k true)
def stepT (P : Program) (ops : Array Oper) (Q : Exit → Act → World → Prop) (C : World → Prop) (o : Oper) (u : Bool) (K : Act → World → Prop) (a : Act) (w : World) : Prop :=
  if Region.wanted o (yielded ops a.tmps) = true then o.wp P a w (fun a' w' => (u = false → C w') ∧ K a' w') Q else (u = false → C w) ∧ K (a.put o.dst undef) w
def wpT (P : Program) (ops : Array Oper) (Q : Exit → Act → World → Prop) (C : World → Prop) : RO → Act → World → Prop
  | .done, a, w => Q .normal a w
  | .take os t, a, w => wpQuiet P ops C (fun a' => wpT P ops Q C t a' w) os a
  | .step o u t, a, w => stepT P ops Q C o u (wpT P ops Q C t) a w
  | .fork o u t o' u' t', a, w => stepT P ops Q C o u (wpT P ops Q C t) a w ∧ stepT P ops Q C o' u' (wpT P ops Q C t') a w
  | .fork3 o u t o' u' t' o'' u'' t'', a, w => stepT P ops Q C o u (wpT P ops Q C t) a w ∧ stepT P ops Q C o' u' (wpT P ops Q C t') a w ∧ stepT P ops Q C o'' u'' (wpT P ops Q C t'') a w
section
variable {P : Program} {md : Region.Mode} {l : List Oper} {Q : Exit → Act → World → Prop} {C : World → Prop} {U : Nat → Bool}
theorem wpAnyU_firstC {i : Nat} {oi : Oper} {v : Value} (hi : l.toArray[i]? = some oi) (hsel : ∀ (j : Nat) (o : Oper) cs b, l.toArray[j]? = some o → o.op ≠ .select cs b)
    (hQ : ∀ c a w, Q (.panic c) (a.put oi.dst v) w → Q (.panic c) a w) (hU : lateB md l.toArray U i = true) :
    ∀ (fuel : Nat) (listed : Array Bool) (a : Act) (w : World), Closed md l.toArray listed →
      (∀ j oj, l.toArray[j]? = some oj → j ≠ i → listed.getD j true = false → (∀ e ∈ oj.after, Region.binds md e = true → e.on ≠ i) → oi.apart l.toArray oj = true) →
      i ∈ Region.ready md l.toArray listed → YieldsIf P l.toArray C oi v a → C w →
      wpAnyU P md l.toArray Q C U fuel (listed.setIfInBounds i true) (a.put oi.dst v) w → wpAnyU P md l.toArray Q C U (fuel + 1) listed a w := by
  intro fuel
  induction fuel with
  | zero =>
    intro listed a w _ _ hr hy hS H
    refine ⟨fun h => (by rw [h] at hr; cases hr), fun j hj => ?_⟩
    by_cases hji : j = i
    · subst hji; exact hy.wpOp hi hS ⟨fun _ => hS, H⟩
    · have := ready_mono hj hji
      rw [H.1] at this
      cases this
  | succ fuel ih =>
    intro listed a w hcl hfree hr hy hS H
    refine ⟨fun h => (by rw [h] at hr; cases hr), fun j hj => ?_⟩
    by_cases hji : j = i
    · subst hji; exact hy.wpOp hi hS ⟨fun _ => hS, H⟩
    · have h1 := H.2 j (ready_mono hj hji)
      obtain ⟨hjun, oj, hoj, hall⟩ := mem_ready.1 hj
      have hun : ¬ listed.getD i false = true := fun h => by
        have h0 := (mem_ready.1 hr).1
        rcases Nat.lt_or_ge i listed.size with h' | h'
        · simp [h'] at h0 h; rw [h0] at h; cases h
        · simp [Array.getElem?_eq_none h'] at h
      have hnot : ∀ e ∈ oj.after, Region.binds md e = true → e.on ≠ i := fun e he hb heq => hun (by rw [← heq]; exact hall e he hb)
      have hjl : j < l.toArray.size := by
        rcases Nat.lt_or_ge j l.toArray.size with h' | h'
        · exact h'
        · rw [Array.getElem?_eq_none h'] at hoj; cases hoj
      have hUj : U j = false := by
        cases hu : U j with
        | false => rfl
        | true =>
          have h2 := List.all_eq_true.1 hU j (List.mem_range.2 hjl)
          rw [hu] at h2
          simp only [Bool.not_true, Bool.false_or] at h2
          exact absurd (chain_listed hcl _ j oj h2 hoj hall) hun
      have h2 := wpOp_putIf hoj (hfree j oj hoj hji hjun hnot) (fun cs b => hsel i oi cs b hi) (fun cs b => hsel j oj cs b hoj) hQ hy h1
      have hfree' : ∀ k ok, l.toArray[k]? = some ok → k ≠ i → (listed.setIfInBounds j true).getD k true = false →
          (∀ e ∈ ok.after, Region.binds md e = true → e.on ≠ i) → oi.apart l.toArray ok = true := fun k ok hk hki hun hno => by
        refine hfree k ok hk hki ?_ hno
        by_cases hjk : j = k
        · subst hjk; exact hjun
        · rw [getD_set_ne true hjk] at hun; exact hun
      refine wpOp_mono (fun a' w' h3 => ⟨fun _ => h3.2.1 hUj, ih (listed.setIfInBounds j true) a' w' (closed_set hcl hj) hfree' (ready_mono hr (Ne.symm hji)) h3.1 (h3.2.1 hUj) ?_⟩) h2
      rw [Array.setIfInBounds_comm _ _ hji]
      exact h3.2.2
theorem wpAnyU_takes (hs : Region.noSelect l.toArray = true) (hQ : ∀ c a (d : Nat) v w, Q (.panic c) (Act.put a (some d) v) w → Q (.panic c) a w) (n : Nat) (K : Act → World → Prop) : ∀ (ks : List Nat) (os : List Oper) (listed : Array Bool) (a : Act) (w : World), Picks l ks os → takesB md l.toArray U ks listed = true → Closed md l.toArray listed → C w →
    (∀ a', K a' w → Closed md l.toArray (listAll ks listed) → wpAnyU P md l.toArray Q C U n (listAll ks listed) a' w) →
    wpQuiet P l.toArray C (fun a' => K a' w) os a → wpAnyU P md l.toArray Q C U (ks.length + n) listed a w := by
  intro ks
  induction ks with
  | nil =>
    intro os listed a w hp hB hcl hC hk h
    cases hp
    rw [List.length_nil, Nat.zero_add]
    exact hk a h hcl
  | cons k ks ih =>
    intro os listed a w hp hB hcl hC hk h
    cases hp with
    | cons h0' hp =>
      rename_i o os
      have h0 : l.toArray[k]? = some o := by simpa using h0'.get
      simp only [takesB, Bool.and_eq_true, h0, Option.map_some, Option.getD_some] at hB
      obtain ⟨⟨⟨⟨hr, hf⟩, hpl⟩, hwt⟩, hB'⟩ := hB
      have hr' : k ∈ Region.ready md l.toArray listed := by simpa using hr
      rw [List.length_cons, Nat.add_right_comm]
      unfold wpQuiet at h
      by_cases hw : Region.wanted o (yielded l.toArray a.tmps) = true
      · rw [if_pos hw] at h
        obtain ⟨v, hy, hK⟩ := yields_in hpl hw h
        exact wpAnyU_firstC h0 (Region.noSelect_spec hs) (fun c a w h => hput (hQ c) a _ _ w h) hwt _ _ _ _ hcl (Region.free_spec h0 hf) hr' hy hC (ih os _ _ w hp hB' (closed_set hcl hr') hC hk hK)
      · rw [if_neg hw] at h
        exact wpAnyU_firstC h0 (Region.noSelect_spec hs) (fun c a w h => hput (hQ c) a _ _ w h) hwt _ _ _ _ hcl (Region.free_spec h0 hf) hr' (.inr ⟨by simpa using hw, rfl⟩) hC (ih os _ _ w hp hB' (closed_set hcl hr') hC hk h)
theorem stepT_op {o : Oper} {i : Nat} {K K' : Act → World → Prop} {a : Act} {w : World} (ho : l.toArray[i]? = some o) (hk : ∀ a' w', (U i = false → C w') → K a' w' → K' a' w') (h : stepT P l.toArray Q C o (U i) K a w) : wpOp P l.toArray Q i (fun a' w' => (U i = false → C w') ∧ K' a' w') a w := by
  unfold wpOp
  simp only [ho]
  unfold stepT at h
  by_cases hw : Region.wanted o (yielded l.toArray a.tmps) = true
  · rw [if_pos hw] at h
    simp only [hw, if_true]
    exact .inl (Oper.wp_mono (fun a' w' h' => ⟨h'.1, hk _ _ h'.1 h'.2⟩) h)
  · rw [if_neg hw] at h
    simp only [hw, Bool.false_eq_true, if_false]
    exact ⟨h.1, hk _ _ h.1 h.2⟩
theorem wpAnyU_tree (hs : Region.noSelect l.toArray = true) (hQ : ∀ c a (d : Nat) v w, Q (.panic c) (Act.put a (some d) v) w → Q (.panic c) a w) : ∀ (t : RT) (t' : RO) (ok : Bool) (listed : Array Bool) (a : Act) (w : World), PickT l U t t' → checkT md l.toArray U t ok listed = true → Closed md l.toArray listed → (ok = true → C w) → wpT P l.toArray Q C t' a w → wpAnyU P md l.toArray Q C U t.n listed a w := by
  intro t
  induction t with
  | done =>
    intro t' ok listed a w hp hB hcl hC h
    cases hp
    exact ⟨List.isEmpty_iff.1 hB, h⟩
  | take ks t ih =>
    intro t' ok listed a w hp hB hcl hC h
    cases hp with
    | take hk hp =>
      simp only [checkT, Bool.and_eq_true] at hB
      exact wpAnyU_takes hs hQ t.n _ ks _ listed a w hk hB.1.2 hcl (hC hB.1.1) (fun a' h' hcl' => ih _ ok _ _ _ hp hB.2 hcl' hC h') h
  | step i t ih =>
    intro t' ok listed a w hp hB hcl hC h
    cases hp with
    | step h0 hb hp =>
      subst hb
      have ho := (show l.toArray[i]? = some _ by simpa using h0.get)
      simp only [checkT, Bool.and_eq_true, decide_eq_true_eq] at hB
      refine ⟨fun h1 => (by rw [hB.1] at h1; cases h1), fun j hj => ?_⟩
      have hj' := hj
      rw [hB.1] at hj
      obtain rfl : j = i := by simpa using hj
      refine stepT_op ho (fun a' w' h1 h2 => ih _ _ _ _ _ hp hB.2 (closed_set hcl hj') (fun hk => ?_) h2) h
      rw [Bool.and_eq_true] at hk
      exact h1 (by simpa using hk.2)
  | fork i t j u ih1 ih2 =>
    intro t' ok listed a w hp hB hcl hC h
    cases hp with
    | fork h0 hb hp h0' hb' hp' =>
      subst hb hb'
      have ho := (show l.toArray[i]? = some _ by simpa using h0.get)
      have ho' := (show l.toArray[j]? = some _ by simpa using h0'.get)
      simp only [checkT, Bool.and_eq_true, decide_eq_true_eq] at hB
      obtain ⟨⟨⟨hr, hn⟩, hB1⟩, hB2⟩ := hB
      refine ⟨fun h1 => (by rw [hr] at h1; cases h1), fun k hk => ?_⟩
      have hk' := hk
      rw [hr] at hk
      rcases (by simpa using hk : k = i ∨ k = j) with rfl | rfl
      · refine stepT_op ho (fun a' w' h1 h2 => ih1 _ _ _ _ _ hp hB1 (closed_set hcl hk') (fun hq => ?_) h2) h.1
        rw [Bool.and_eq_true] at hq
        exact h1 (by simpa using hq.2)
      · refine stepT_op ho' (fun a' w' h1 h2 => ?_) h.2
        have := ih2 _ _ _ _ _ hp' hB2 (closed_set hcl hk') (fun hq => by
          rw [Bool.and_eq_true] at hq
          exact h1 (by simpa using hq.2)) h2
        rw [← hn] at this
        exact this
  | fork3 i t j u k v ih1 ih2 ih3 =>
    intro t' ok listed a w hp hB hcl hC h
    cases hp with
    | fork3 h0 hb hp h0' hb' hp' h0'' hb'' hp'' =>
      subst hb hb' hb''
      have ho := (show l.toArray[i]? = some _ by simpa using h0.get)
      have ho' := (show l.toArray[j]? = some _ by simpa using h0'.get)
      have ho'' := (show l.toArray[k]? = some _ by simpa using h0''.get)
      simp only [checkT, Bool.and_eq_true, decide_eq_true_eq] at hB
      obtain ⟨⟨⟨⟨⟨hr, hn⟩, hn'⟩, hB1⟩, hB2⟩, hB3⟩ := hB
      refine ⟨fun h1 => (by rw [hr] at h1; cases h1), fun q hk => ?_⟩
      have hk' := hk
      rw [hr] at hk
      rcases (by simpa using hk : q = i ∨ q = j ∨ q = k) with rfl | rfl | rfl
      · refine stepT_op ho (fun a' w' h1 h2 => ih1 _ _ _ _ _ hp hB1 (closed_set hcl hk') (fun hq => ?_) h2) h.1
        rw [Bool.and_eq_true] at hq
        exact h1 (by simpa using hq.2)
      · refine stepT_op ho' (fun a' w' h1 h2 => ?_) h.2.1
        have := ih2 _ _ _ _ _ hp' hB2 (closed_set hcl hk') (fun hq => by
          rw [Bool.and_eq_true] at hq
          exact h1 (by simpa using hq.2)) h2
        rw [← hn] at this
        exact this
      · refine stepT_op ho'' (fun a' w' h1 h2 => ?_) h.2.2
        have := ih3 _ _ _ _ _ hp'' hB3 (closed_set hcl hk') (fun hq => by
          rw [Bool.and_eq_true] at hq
          exact h1 (by simpa using hq.2)) h2
        rw [← hn'] at this
        exact this
theorem wp_region_tree (S0 : World → Prop) {id : Nat} {a : Act} {w : World} (U : Nat → Bool) (t : RT) {t' : RO} (hm : P.follows .mixedOrders = true) (hl : t.n = l.toArray.size) (hs : Region.noSelect l.toArray = true) (hB : checkT .any l.toArray U t true (Array.replicate l.toArray.size false) = true) (hp : PickT l U t t')
    (hQ : ∀ c a (d : Nat) v w, Q (.panic c) (Act.put a (some d) v) w → Q (.panic c) a w) (hS : S0 w.drew) (h : wpT P l.toArray Q (Pin S0 w.drew) t' a w.drew) : (Code.region id l.toArray true).wp P Q a w := by
  refine wp_region_any hm ?_
  have := wpAny_of_U _ _ _ _ (wpAnyU_tree (P := P) (md := .any) (Q := Q) (C := Pin S0 w.drew) hs hQ t t' true _ a w.drew hp hB (closed_start _ _) (fun _ => pin_mem hS) h)
  rw [hl] at this
  exact this
/-- one step: what follows is a letter -/
theorem stepT_walk {o : Oper} {u : Bool} {K : Act → World → Prop} {a : Act} {w : World} {ops : Array Oper} (hw : Region.wanted o (yielded ops a.tmps) = true) (h : ∀ K' : Act → World → Prop, Hid (∀ a' w', (u = false → C w') → K a' w' → K' a' w') → o.wp P a w K' Q) : stepT P ops Q C o u K a w := by
  unfold stepT
  rw [if_pos hw]
  exact h _ (fun a' w' h1 h2 => ⟨h1, h2⟩)
theorem wpT_done {ops : Array Oper} {a : Act} {w : World} (h : Q .normal a w) : wpT P ops Q C .done a w := h
theorem wpT_take {ops : Array Oper} {os : List Oper} {t : RO} {a : Act} {w : World} (h : wpQuiet P ops C (fun a' => wpT P ops Q C t a' w) os a) : wpT P ops Q C (.take os t) a w := h
theorem wpT_step {ops : Array Oper} {o : Oper} {u : Bool} {t : RO} {a : Act} {w : World} (hg : o.guard = none) (h : ∀ K' : Act → World → Prop, Hid (∀ a' w', (u = false → C w') → wpT P ops Q C t a' w' → K' a' w') → o.wp P a w K' Q) : wpT P ops Q C (.step o u t) a w :=
  stepT_walk (by simp [Region.wanted, hg]) h
theorem wpT_fork {ops : Array Oper} {o o' : Oper} {u u' : Bool} {t t' : RO} {a : Act} {w : World} (h : wpT P ops Q C (.step o u t) a w) (h' : wpT P ops Q C (.step o' u' t') a w) : wpT P ops Q C (.fork o u t o' u' t') a w := ⟨h, h'⟩
end
end Go.Proofs.YtgfjdkkfgclhjaaGreat
/- The document's rows of values, walked: rows. -/
namespace Go.Proofs.YtgfjdkkfgclhjaaGreat.Bd
open Go.RowKit Go.Proofs.YtgfjdkkfgclhjaaGreat Go.Proofs.YtgfjdkkfgclhjaaGreat.Lx Go.Maps

def rowS (n x r : Nat) : List Nat := [r, setR n r x true]
theorem rows_next {n i x : Nat} {l : List Nat} (h : l[i]? = some x) : rowsR n (l.take (i + 1)) = (rowsR n (l.take i)).flatMap (rowS n x) := by
  unfold rowsR
  rw [List.take_add_one, h, List.foldl_append]
  rfl
theorem rows_len {n i : Nat} {l : List Nat} (h : i ≤ l.length) : (rowsR n (l.take i)).length = 2 ^ i := by
  rw [rows_exp, exp_len, List.length_take, Nat.min_eq_left h]
theorem rows_lt {n i : Nat} {l : List Nat} (hl : ∀ v ∈ l, v < n) : ∀ r ∈ rowsR n (l.take i), r < 2 ^ n := by
  rw [rows_exp]
  exact exp_lt _ 0 (fun v hv => hl v (List.mem_of_mem_take hv)) (Nat.two_pow_pos n)
theorem flat_next {n x k r : Nat} {out : List Nat} (h : out[k]? = some r) : (out.take (k + 1)).flatMap (rowS n x) = (out.take k).flatMap (rowS n x) ++ [r, setR n r x true] := by
  rw [List.take_add_one, h, List.flatMap_append]
  simp [rowS]
theorem flat_len {n x k : Nat} {out : List Nat} (h : k ≤ out.length) : ((out.take k).flatMap (rowS n x)).length = 2 * k := by
  have : ∀ (l : List Nat), (l.flatMap (rowS n x)).length = 2 * l.length := by
    intro l
    induction l with
    | nil => rfl
    | cons a l ih => rw [List.flatMap_cons, List.length_append, ih]; simp [rowS]; omega
  rw [this, List.length_take, Nat.min_eq_left h]
theorem cell_two {w : World} (x y : Value) (t : TypeId) : ∀ j u, [x, y][j]? = some u → (w.alloc (.cells #[x, y] t)).cell? ((⟨w.heap.size, 0, none⟩ : Addr).add j) = some u := by
  intro j u hj
  match j, hj with
  | 0, hj => simp at hj; subst hj; exact cell_heap (j := 0) (heap_new w _) rfl
  | 1, hj => simp at hj; subst hj; exact cell_heap (j := 1) (heap_new w _) rfl
  | j + 2, hj => simp at hj
set_option maxHeartbeats 4000000 in
set_option maxRecDepth 100000 in
theorem rows_any (n : Nat) (l : List Nat) (A : Option Addr) (c : Nat) (w : World) (hn : n ≤ 6) (hl : ∀ x ∈ l, x < n) (hll : l.length ≤ 6) (hs : Src w A l.length c 1 ((encL l).map encI)) :
    Calls Tryz.prog 52 #[.int .i64 n, .slice A l.length c] w (IRowOut (rowsR n l) w) := by
  obtain ⟨ti, ht1, tz, tsz, tb⟩ := info_at infoInt
  have HS := hide hs
  have HL := hide hl
  have HST := hide (fun (r x : Nat) (w' : World) (hr : r < 2 ^ n) (hx : x < n) => set_any n r x true w' (by omega) hx hr)
  have HRL := hide (fun (i : Nat) (h : i ≤ l.length) => rows_len (n := n) h)
  have HRT := hide (fun (i : Nat) => rows_lt (i := i) hl)
  have hbx := bel_one w (.cells #[.int .i64 0] 3)
  have HI0 := hide (show IRow w.heap.size (w.alloc (.cells #[.int .i64 0] 3)) (.slice (some ⟨w.heap.size, 0, none⟩) 1 1) (rowsR n (l.take 0)) from ⟨rfl, .inr ⟨w.heap.size, 1, _, rfl, Nat.le_refl _, heap_new w _, Nat.le_refl _, by decide, rfl, rfl⟩⟩)
  have HBX := hide hbx
  clear hs hl hbx
  go_enter Tryz.func52, Tryz.ntmps52
  go_wp2_with fail
  generalize w.alloc (.cells #[.int .i64 0] 3) = wx at *
  go_loopw [5, 6, 7, 8] (fun o j _ _ wr => ∃ (i : Nat) (B : Option Addr) (d : Nat), j = .int .i64 i ∧ i ≤ l.length ∧ o = .slice B (rowsR n (l.take i)).length d ∧ IRow w.heap.size wr (.slice B (rowsR n (l.take i)).length d) (rowsR n (l.take i)) ∧ Below w.heap.size w wr) (fun _ j _ _ _ => l.length - (intOf j).toNat)
  case atStart => exact ⟨0, _, _, rfl, Nat.zero_le _, rfl, HI0.out, HBX.out⟩
  case round =>
    clear HI0 HBX
    obtain ⟨i, B, d, rfl, hi, rfl, hI, hb⟩ := hrel
    have HI := hide hI
    have HB := hide hb
    rcases Nat.lt_or_ge i l.length with hlt | hge
    · have d1 : decide (i < l.length) = true := decide_eq_true hlt
      have d1' : decide ((i : Int) < (l.length : Int)) = true := decide_eq_true (by omega)
      have d2 : ((i : Int) < (l.length : Int)) := by omega
      obtain ⟨x, hx⟩ : ∃ x, l[i]? = some x := ⟨_, List.getElem?_eq_getElem hlt⟩
      have hxn := HL.out x (List.mem_of_getElem? hx)
      have HNX := hide (rows_next (n := n) hx)
      have hol : (rowsR n (l.take i)).length ≤ 64 := by
        rw [HRL.out i hi]
        exact Nat.le_trans (Nat.pow_le_pow_right (by omega) (show i ≤ 6 by omega)) (by decide)
      have HRI := hide (HRT.out i)
      obtain ⟨a2, rfl, x0⟩ := src_at (HS.out.below hb) (enc_at hx)
      generalize rowsR n (l.take i) = out at *
      have HSO := hide hI.src
      have HLT := hide hlt
      have HX0 := hide x0
      clear hI hb hlt hx x0
      obtain ⟨w1, rfl⟩ : ∃ y, y = wr := ⟨wr, rfl⟩
      go_wp2_with fail
      go_loopw [7, 8] (fun o j wq => ∃ (k : Nat) (B2 : Option Addr) (d3 : Nat), j = .int .i64 k ∧ k ≤ out.length ∧ o = .slice B2 ((out.take k).flatMap (rowS n x)).length d3 ∧ IRow w1.heap.size wq (.slice B2 ((out.take k).flatMap (rowS n x)).length d3) ((out.take k).flatMap (rowS n x)) ∧ Below w1.heap.size w1 wq) (fun _ j _ => out.length - (intOf j).toNat)
      case atStart => exact ⟨0, none, 0, rfl, Nat.zero_le _, rfl, IRow.nil _ _, Below.refl _ _⟩
      case round =>
        obtain ⟨k, B2, d3, rfl, hk, rfl, hN, hbq⟩ := hrel
        have HN := hide hN
        have HQ := hide hbq
        rcases Nat.lt_or_ge k out.length with hkl | hkg
        · have e1 : decide (k < out.length) = true := decide_eq_true hkl
          have e1' : decide ((k : Int) < (out.length : Int)) = true := decide_eq_true (by omega)
          have e2 : ((k : Int) < (out.length : Int)) := by omega
          obtain ⟨r, hr⟩ : ∃ r, out[k]? = some r := ⟨_, List.getElem?_eq_getElem hkl⟩
          obtain ⟨a1, rfl, y0⟩ := src_at HSO.out (enc_at hr)
          have HSX := hide (show Below w1.heap.size w1 wr.drew from hbq.drew)
          have gx := fun q => cellB (pin_in (S := Below w1.heap.size w1) HSX.out q) HX0.out
          have gy := fun q => cellB (pin_in (S := Below w1.heap.size w1) HSX.out q) y0
          have HSE := hide (fun w' => HST.out r x w' (HRI.out r (List.mem_of_getElem? hr)) hxn)
          have HFN := hide (flat_next (n := n) (x := x) hr)
          have hfl := flat_len (n := n) (x := x) hk
          have HN8 := hide (own_below HN.out (Below.refl wr.heap.size wr).drew)
          have HKL := hide hkl
          generalize (out.take k).flatMap (rowS n x) = nx at *
          clear hN hbq hr hkl y0 HN HQ
          have hnl : nx.length ≤ 128 := by omega
          clear hfl
          go_wp2_with fail
          refine wp_region_tree ((Below w1.heap.size w1)) (fun k => ([] : List Nat).contains k) (.take [0, 1, 2, 3, 4, 5, 6, 7, 8, 9, 10, 11, 12, 13] (.step 14 (.step 15 (.step 16 (.take [17] .done))))) (by kernel_rfl) (by kernel_rfl) (by kernel_rfl) (by kernel_rfl) (.take (.cons (.zero) (.cons (.succ (.zero)) (.cons (.succ (.succ (.zero))) (.cons (.succ (.succ (.succ (.zero)))) (.cons (.succ (.succ (.succ (.succ (.zero))))) (.cons (.succ (.succ (.succ (.succ (.succ (.zero)))))) (.cons (.succ (.succ (.succ (.succ (.succ (.succ (.zero))))))) (.cons (.succ (.succ (.succ (.succ (.succ (.succ (.succ (.zero)))))))) (.cons (.succ (.succ (.succ (.succ (.succ (.succ (.succ (.succ (.zero))))))))) (.cons (.succ (.succ (.succ (.succ (.succ (.succ (.succ (.succ (.succ (.zero)))))))))) (.cons (.succ (.succ (.succ (.succ (.succ (.succ (.succ (.succ (.succ (.succ (.zero))))))))))) (.cons (.succ (.succ (.succ (.succ (.succ (.succ (.succ (.succ (.succ (.succ (.succ (.zero)))))))))))) (.cons (.succ (.succ (.succ (.succ (.succ (.succ (.succ (.succ (.succ (.succ (.succ (.succ (.zero))))))))))))) (.cons (.succ (.succ (.succ (.succ (.succ (.succ (.succ (.succ (.succ (.succ (.succ (.succ (.succ (.zero)))))))))))))) .nil)))))))))))))) (.step (.succ (.succ (.succ (.succ (.succ (.succ (.succ (.succ (.succ (.succ (.succ (.succ (.succ (.succ (.zero))))))))))))))) rfl (.step (.succ (.succ (.succ (.succ (.succ (.succ (.succ (.succ (.succ (.succ (.succ (.succ (.succ (.succ (.succ (.zero)))))))))))))))) rfl (.step (.succ (.succ (.succ (.succ (.succ (.succ (.succ (.succ (.succ (.succ (.succ (.succ (.succ (.succ (.succ (.succ (.zero))))))))))))))))) rfl (.take (.cons (.succ (.succ (.succ (.succ (.succ (.succ (.succ (.succ (.succ (.succ (.succ (.succ (.succ (.succ (.succ (.succ (.succ (.zero)))))))))))))))))) .nil) .done))))) ?hQ ?hS ?_
          case hQ => exact fun _ _ _ _ _ h => h
          case hS => exact HSX.out
          refine wpT_take ?_
          repeat (first | go_big_quiet_step ((fail)) | quiet_step ((fail)))
          refine wpQuiet_nil ?_
          generalize wr.drew = x0 at *
          clear gx gy
          refine wpT_step rfl ?_
          intro K1 hK1
          go_wp2_with fail
          with_reducible refine (HSE.out x0).mono ?_
          rintro e wz ⟨rfl, hwz⟩
          subst wz
          refine hK1.out _ _ (fun _ => pin_mem HSX.out) ?_
          clear hK1
          refine wpT_step rfl ?_
          intro K1 hK1
          go_wp2_with fail
          have HY := hide (HSX.out.alloc HSX.out.size (.cells #[.int .i64 r, .int .i64 (setR n r x true : Nat)] 3))
          have HN9 := hide (own_below HN8.out (bel_one x0 (.cells #[.int .i64 r, .int .i64 (setR n r x true : Nat)] 3)))
          have HC := hide (cell_two (w := x0) (.int .i64 r) (.int .i64 (setR n r x true : Nat)) 3)
          have HSZ := hide (show w1.heap.size ≤ (x0.alloc (.cells #[.int .i64 r, .int .i64 (setR n r x true : Nat)] 3)).heap.size from HY.out.size)
          refine hK1.out _ _ (fun _ => pin_mem HY.out) ?_
          clear hK1 HN8
          generalize x0.alloc (.cells #[.int .i64 r, .int .i64 (setR n r x true : Nat)] 3) = x2 at *
          generalize x0.heap.size = nb at *
          refine wpT_step rfl ?_
          intro K1 hK1
          refine wp_append_lies _ (.tmp 22) (.tmp 37) 30 rfl w1.heap.size 3 ti _ 1 8 Tryz.underlying30 ht1 tz tsz tb rfl (by decide) _ _ _ rfl HN9.out ⟨nb, 0, none⟩ 2 2 [.int .i64 r, .int .i64 (setR n r x true : Nat)] rfl rfl HC.out ?ones (by omega) ?c63 ?cby HSZ.out _ rfl ?_
          case ones => simp [Value.oneCell']
          case c63 => unfold maxLen; omega
          case cby => omega
          intro gm cgm y2 hown hgr _ _
          have HE := hide (show IRow w1.heap.size y2 (.slice (some ⟨gm, 0, none⟩) (nx ++ [r, setR n r x true]).length cgm) (nx ++ [r, setR n r x true]) ∧ Below w1.heap.size w1 y2 from ⟨irow_two hown, HY.out.grown hgr HSZ.out (fun q hq => (HN9.out.lt q hq).1)⟩)
          clear hown hgr
          refine hK1.out _ _ (fun _ => pin_mem HE.out.2) ?_
          clear hK1 HN9 HC
          refine wpT_take ?_
          repeat (first | go_big_quiet_step ((fail)) | quiet_step ((fail)))
          refine wpQuiet_nil ?_
          refine wpT_done ?_
          go_wp2_with fail
          go_roundw
          case rel => exact ⟨k + 1, some ⟨gm, 0, none⟩, cgm, by go_num, HKL.out, by rw [HFN.out] <;> simp, by rw [HFN.out]; exact HE.out.1, HE.out.2⟩
          case measure => have := HKL.out; simp [intOf]; omega
        · obtain rfl : k = out.length := by omega
          have e1 : decide (out.length < out.length) = false := decide_eq_false (by omega)
          have e1' : decide ((out.length : Int) < (out.length : Int)) = false := decide_eq_false (by omega)
          have ht := List.take_length (l := out)
          rw [ht, ← HNX.out] at HN
          rw [ht, ← HNX.out]
          have HE := hide (And.intro (own_base HN.out HB.out.size) (below_wide HB.out HQ.out))
          clear hN hbq ht
          go_wp2_with fail
          go_roundw
          case rel => exact ⟨i + 1, B2, d3, by go_num, HLT.out, rfl, HE.out.1, HE.out.2⟩
          case measure => have := HLT.out; simp [intOf]; omega
    · obtain rfl : i = l.length := by omega
      have d1 : decide (l.length < l.length) = false := decide_eq_false (by omega)
      have d1' : decide ((l.length : Int) < (l.length : Int)) = false := decide_eq_false (by omega)
      have ht := List.take_length (l := l)
      rw [ht] at HI
      rw [ht]
      have HE := hide (show IRowOut (rowsR n l) w (.returned (.slice B (rowsR n l).length d)) wr from ⟨_, rfl, HI.out, HB.out⟩)
      clear hI hb ht
      go_wp2_with fail
      go_ret
      exact HE.out
end Go.Proofs.YtgfjdkkfgclhjaaGreat.Bd
/- The document's Count and Least, walked. -/
namespace Go.Proofs.YtgfjdkkfgclhjaaGreat.Bd
open Go.RowKit Go.Proofs.YtgfjdkkfgclhjaaGreat Go.Proofs.YtgfjdkkfgclhjaaGreat.Lx Go.Maps

theorem rows_all {n : Nat} {l : List Nat} (hl : ∀ v ∈ l, v < n) : ∀ r ∈ rowsR n l, r < 2 ^ n := by
  have := rows_lt (i := l.length) hl
  rwa [List.take_length] at this
theorem rows_size {n : Nat} {l : List Nat} (h : l.length ≤ 6) : (rowsR n l).length ≤ 64 := by
  have h1 := rows_len (n := n) (Nat.le_refl l.length)
  rw [List.take_length] at h1
  rw [h1]
  exact Nat.le_trans (Nat.pow_le_pow_right (by omega) h) (by decide)
theorem count_next {f : Tb} {L : List Nat} {i r : Nat} {b : Bool} (h : L[i]? = some r) (hb : f[r]? = some b) : countR f (L.take (i + 1)) = countR f (L.take i) + if b = true then 1 else 0 := by
  unfold countR
  rw [List.take_add_one, h, List.filter_append, List.length_append]
  congr 1
  simp only [Option.toList_some, List.filter_cons, List.filter_nil, List.getD_eq_getElem?_getD, hb, Option.getD_some]
  cases b <;> rfl
theorem count_le (f : Tb) (L : List Nat) (i : Nat) : countR f (L.take i) ≤ L.length := by
  unfold countR
  refine Nat.le_trans (List.length_filter_le _ _) ?_
  rw [List.length_take]
  omega
set_option maxHeartbeats 4000000 in
set_option maxRecDepth 100000 in
theorem Count_tab (n : Nat) (f : Tb) (l : List Nat) (A1 A2 : Option Addr) (c1 c2 : Nat) (w : World) (hn : n ≤ 6) (h1 : Src w A1 f.length c1 1 (f.map Value.bool)) (hfl : f.length = 2 ^ n) (hl : ∀ x ∈ l, x < n) (hll : l.length ≤ 6) (h2 : Src w A2 l.length c2 1 ((encL l).map encI)) :
    Calls Tryz.prog 24 #[.int .i64 n, .slice A1 f.length c1, .slice A2 l.length c2] w fun e w' => e = .returned (.int .u64 (countR f (rowsR n l) : Nat)) ∧ Below w.heap.size w w' := by
  have H1 := hide h1
  have HRW := hide (rows_any n l A2 c2 w hn hl hll h2)
  have HRL := hide (show ∀ r ∈ rowsR n l, r < f.length from fun r hr => by rw [hfl]; exact rows_all hl r hr)
  have hrs := rows_size (n := n) hll
  have hf64 : f.length ≤ 64 := by have := pow_le6 hn; omega
  generalize rowsR n l = L at *
  clear h1 h2 hl hfl
  go_enter Tryz.func24, Tryz.ntmps24
  go_wp2_with fail
  refine HRW.out.mono ?_
  rintro e w1 ⟨V, rfl, hI, hb⟩
  obtain ⟨B, d, rfl⟩ := own_slice hI
  have HI := hide hI
  have HB := hide hb
  clear hI hb HRW
  go_wp2_with fail
  go_loopw [8, 9] (fun o j wr => ∃ i : Nat, j = .int .i64 i ∧ i ≤ L.length ∧ o = .int .u64 (countR f (L.take i) : Nat) ∧ wr = w1) (fun _ j _ => L.length - (intOf j).toNat)
  case atStart => exact ⟨0, rfl, Nat.zero_le _, rfl, rfl⟩
  case round =>
    obtain ⟨i, rfl, hi, rfl, rfl⟩ := hrel
    rcases Nat.lt_or_ge i L.length with hlt | hge
    · have d1 : decide (i < L.length) = true := decide_eq_true hlt
      have d1' : decide ((i : Int) < (L.length : Int)) = true := decide_eq_true (by omega)
      have d2 : ((i : Int) < (L.length : Int)) := by omega
      obtain ⟨r, hr⟩ : ∃ r, L[i]? = some r := ⟨_, List.getElem?_eq_getElem hlt⟩
      have hrl := HRL.out r (List.mem_of_getElem? hr)
      have d3 : ((r : Int) < (f.length : Int)) := by omega
      obtain ⟨b, hb⟩ : ∃ b, f[r]? = some b := ⟨_, List.getElem?_eq_getElem hrl⟩
      obtain ⟨a1, rfl, x0⟩ := src_at HI.out.src (enc_at hr)
      obtain ⟨a2, rfl, y0⟩ := srcB_at (H1.out.below HB.out) hb
      have HNX := hide (count_next hr hb)
      have hcl := count_le f L i
      generalize countR f (L.take i) = q at *
      have HLT := hide hlt
      clear hlt hr hb hrl
      cases b
      · go_wp2_with fail
        go_roundw
        case rel => exact ⟨i + 1, by go_num, HLT.out, by rw [HNX.out]; rfl, by first | rfl | trivial⟩
        case measure => have := HLT.out; simp [intOf]; omega
      · go_wp2_with fail
        go_roundw
        case rel => exact ⟨i + 1, by go_num, HLT.out, by rw [HNX.out]; simp, by first | rfl | trivial⟩
        case measure => have := HLT.out; simp [intOf]; omega
    · obtain rfl : i = L.length := by omega
      have d1 : decide (L.length < L.length) = false := decide_eq_false (by omega)
      have d1' : decide ((L.length : Int) < (L.length : Int)) = false := decide_eq_false (by omega)
      rw [List.take_length]
      go_wp2_with fail
      go_ret
      exact ⟨rfl, HB.out⟩
theorem find_at {α : Type} {p : α → Bool} : ∀ {L : List α} {i : Nat} {r : α}, (∀ x ∈ L.take i, p x = false) → L[i]? = some r → p r = true → L.find? p = some r
  | a :: L, 0, r, _, h, hp => by
    simp at h
    subst h
    rw [List.find?_cons_of_pos hp]
  | a :: L, i + 1, r, h0, h, hp => by
    rw [List.find?_cons_of_neg (by rw [h0 a (by simp)]; exact Bool.false_ne_true)]
    exact find_at (i := i) (fun x hx => h0 x (by rw [List.take_succ_cons]; exact List.mem_cons_of_mem _ hx)) (by simpa using h) hp
theorem find_non {α : Type} {p : α → Bool} {L : List α} (h : ∀ x ∈ L, p x = false) : L.find? p = none := by
  rw [List.find?_eq_none]
  intro x hx
  rw [h x hx]
  exact Bool.false_ne_true
abbrev BOwn (base : Nat) (w : World) (V : Value) (l : List Bool) : Prop := w.ownsRow base 4 1 V l.length (l.map Value.bool)
def LeastTab (r : Option (List Bool)) (w : World) (e : Ending) (w' : World) : Prop := Below w.heap.size w w' ∧ match r with
  | none => e = .returned (.tuple #[.slice none 0 0, .bool false])
  | some bs => ∃ V, e = .returned (.tuple #[V, .bool true]) ∧ BOwn w.heap.size w' V bs
theorem bown_snoc {base d : Nat} {b : Bool} {B : Option Addr} {w : World} {ms : List Bool} (h : w.ownsRow base 4 1 (.slice B (ms.length + 1) d) (ms.length + 1) (ms.map Value.bool ++ [.bool b])) : BOwn base w (.slice B (ms ++ [b]).length d) (ms ++ [b]) := by
  have e : (ms ++ [b]).length = ms.length + 1 := by simp
  show w.ownsRow base _ 1 (.slice B (ms ++ [b]).length d) (ms ++ [b]).length _
  rw [e, List.map_append]
  exact h
set_option maxHeartbeats 4000000 in
set_option maxRecDepth 100000 in
theorem Least_tab (n : Nat) (f : Tb) (l : List Nat) (A1 A2 : Option Addr) (c1 c2 : Nat) (w : World) (hn : n ≤ 6) (h1 : Src w A1 f.length c1 1 (f.map Value.bool)) (hfl : f.length = 2 ^ n) (hl : ∀ x ∈ l, x < n) (hll : l.length ≤ 6) (h2 : Src w A2 l.length c2 1 ((encL l).map encI)) :
    Calls Tryz.prog 23 #[.int .i64 n, .slice A1 f.length c1, .slice A2 l.length c2] w (LeastTab (leastR n f l) w) := by
  obtain ⟨ui, hu1, uz, us, ub⟩ := info_at infoB
  have H1 := hide h1
  have H2 := hide h2
  have HRW := hide (rows_any n l A2 c2 w hn hl hll h2)
  have hp6 := pow_le6 hn
  have HRL := hide (show ∀ r ∈ rowsR n l, r < f.length from fun r hr => by rw [hfl]; exact rows_all hl r hr)
  have HBT := hide (fun (r x : Nat) (w' : World) (hr : r < f.length) (hx : x < n) => bit_any n r x w' (by omega) hx (by omega))
  have HL := hide hl
  have hrs := rows_size (n := n) hll
  have hf64 : f.length ≤ 64 := by omega
  have HLR := hide (show leastR n f l = ((rowsR n l).find? fun r => f.getD r false).map fun r => l.map (rowB n r) from rfl)
  generalize leastR n f l = res at *
  generalize rowsR n l = L at *
  clear h1 h2 hl hfl
  go_enter Tryz.func23, Tryz.ntmps23
  go_wp2_with fail
  refine HRW.out.mono ?_
  rintro e w1 ⟨V, rfl, hI, hb⟩
  obtain ⟨B, d, rfl⟩ := own_slice hI
  have HI := hide hI
  have HB := hide hb
  clear hI hb HRW
  go_wp2_with fail
  go_loopw [9, 10, 11] (fun j _ _ wr => ∃ i : Nat, j = .int .i64 i ∧ i ≤ L.length ∧ (∀ r ∈ L.take i, f.getD r false = false) ∧ wr = w1) (fun j _ _ _ => L.length - (intOf j).toNat)
  case atStart => exact ⟨0, rfl, Nat.zero_le _, fun r hr => by simp at hr, rfl⟩
  case round =>
    obtain ⟨i, rfl, hi, hno, rfl⟩ := hrel
    have HNO := hide hno
    clear hno
    rcases Nat.lt_or_ge i L.length with hlt | hge
    · have d1 : decide (i < L.length) = true := decide_eq_true hlt
      have d1' : decide ((i : Int) < (L.length : Int)) = true := decide_eq_true (by omega)
      have d2 : ((i : Int) < (L.length : Int)) := by omega
      obtain ⟨r, hr⟩ : ∃ r, L[i]? = some r := ⟨_, List.getElem?_eq_getElem hlt⟩
      have hrl := HRL.out r (List.mem_of_getElem? hr)
      have d3 : ((r : Int) < (f.length : Int)) := by omega
      obtain ⟨b, hb⟩ : ∃ b, f[r]? = some b := ⟨_, List.getElem?_eq_getElem hrl⟩
      obtain ⟨a1, rfl, x0⟩ := src_at HI.out.src (enc_at hr)
      obtain ⟨a2, rfl, y0⟩ := srcB_at (H1.out.below HB.out) hb
      have HGD := hide (show f.getD r false = b from by rw [List.getD_eq_getElem?_getD, hb]; rfl)
      have HLT := hide hlt
      have HR := hide hr
      have HRLT := hide hrl
      clear hlt hr hb hrl
      cases b
      · have HN2 := hide (show ∀ r ∈ L.take (i + 1), f.getD r false = false from fun q hq => by
          rw [List.take_add_one, HR.out] at hq
          rcases List.mem_append.1 hq with h | h
          · exact HNO.out q h
          · simp at h
            subst h
            exact HGD.out)
        go_wp2_with fail
        go_roundw
        case rel => exact ⟨i + 1, by go_num, HLT.out, HN2.out, by first | rfl | trivial⟩
        case measure => have := HLT.out; simp [intOf]; omega
      · have HRES := hide (show res = some (l.map (rowB n r)) from by rw [HLR.out, find_at HNO.out HR.out HGD.out]; rfl)
        clear HNO HGD
        obtain ⟨w2, rfl⟩ : ∃ y, y = wr := ⟨wr, rfl⟩
        go_wp2_with fail
        go_loopw [10, 11] (fun o j wq => ∃ (k : Nat) (B2 : Option Addr) (d3 : Nat), j = .int .i64 k ∧ k ≤ l.length ∧ o = .slice B2 ((l.take k).map (rowB n r)).length d3 ∧ BOwn w2.heap.size wq (.slice B2 ((l.take k).map (rowB n r)).length d3) ((l.take k).map (rowB n r)) ∧ Below w2.heap.size w2 wq) (fun _ j _ => l.length - (intOf j).toNat)
        case atStart => exact ⟨0, none, 0, rfl, Nat.zero_le _, rfl, ⟨rfl, .inl ⟨rfl, rfl⟩⟩, Below.refl _ _⟩
        case round =>
          obtain ⟨k, B2, d4, rfl, hk, rfl, hN, hbq⟩ := hrel
          have HN := hide hN
          have HQ := hide hbq
          rcases Nat.lt_or_ge k l.length with hkl | hkg
          · have e1 : decide (k < l.length) = true := decide_eq_true hkl
            have e1' : decide ((k : Int) < (l.length : Int)) = true := decide_eq_true (by omega)
            have e2 : ((k : Int) < (l.length : Int)) := by omega
            obtain ⟨x, hx⟩ : ∃ x, l[k]? = some x := ⟨_, List.getElem?_eq_getElem hkl⟩
            obtain ⟨a3, rfl, z0⟩ := src_at (H2.out.below HB.out) (enc_at hx)
            have HSX := hide (show Below w2.heap.size w2 wr.drew from hbq.drew)
            have gx := fun q => cellB (pin_in (S := Below w2.heap.size w2) HSX.out q) x0
            have gz := fun q => cellB (pin_in (S := Below w2.heap.size w2) HSX.out q) z0
            have HSE := hide (fun w' => HBT.out r x w' HRLT.out (HL.out x (List.mem_of_getElem? hx)))
            have HFN := hide (show (l.take (k + 1)).map (rowB n r) = (l.take k).map (rowB n r) ++ [rowB n r x] from by rw [List.take_add_one, hx, List.map_append]; rfl)
            have hnl : ((l.take k).map (rowB n r)).length ≤ 6 := by rw [List.length_map, List.length_take]; omega
            have HN8 := hide (own_below HN.out (Below.refl wr.heap.size wr).drew)
            have HKL := hide hkl
            generalize (l.take k).map (rowB n r) = nx at *
            clear hN hbq hx hkl z0 HN HQ
            go_wp2_with fail
            refine wp_region_tree ((Below w2.heap.size w2)) (fun k => ([] : List Nat).contains k) (.take [0, 1, 2, 3, 4, 5, 6, 7, 8, 9] (.step 10 (.step 11 (.step 12 (.take [13] .done))))) (by kernel_rfl) (by kernel_rfl) (by kernel_rfl) (by kernel_rfl) (.take (.cons (.zero) (.cons (.succ (.zero)) (.cons (.succ (.succ (.zero))) (.cons (.succ (.succ (.succ (.zero)))) (.cons (.succ (.succ (.succ (.succ (.zero))))) (.cons (.succ (.succ (.succ (.succ (.succ (.zero)))))) (.cons (.succ (.succ (.succ (.succ (.succ (.succ (.zero))))))) (.cons (.succ (.succ (.succ (.succ (.succ (.succ (.succ (.zero)))))))) (.cons (.succ (.succ (.succ (.succ (.succ (.succ (.succ (.succ (.zero))))))))) (.cons (.succ (.succ (.succ (.succ (.succ (.succ (.succ (.succ (.succ (.zero)))))))))) .nil)))))))))) (.step (.succ (.succ (.succ (.succ (.succ (.succ (.succ (.succ (.succ (.succ (.zero))))))))))) rfl (.step (.succ (.succ (.succ (.succ (.succ (.succ (.succ (.succ (.succ (.succ (.succ (.zero)))))))))))) rfl (.step (.succ (.succ (.succ (.succ (.succ (.succ (.succ (.succ (.succ (.succ (.succ (.succ (.zero))))))))))))) rfl (.take (.cons (.succ (.succ (.succ (.succ (.succ (.succ (.succ (.succ (.succ (.succ (.succ (.succ (.succ (.zero)))))))))))))) .nil) .done))))) ?hQ ?hS ?_
            case hQ => exact fun _ _ _ _ _ h => h
            case hS => exact HSX.out
            refine wpT_take ?_
            repeat (first | go_big_quiet_step ((fail)) | quiet_step ((fail)))
            refine wpQuiet_nil ?_
            generalize wr.drew = v0 at *
            clear gx gz
            refine wpT_step rfl ?_
            intro K1 hK1
            go_wp2_with fail
            with_reducible refine (HSE.out v0).mono ?_
            rintro e wz ⟨rfl, hwz⟩
            subst wz
            refine hK1.out _ _ (fun _ => pin_mem HSX.out) ?_
            clear hK1
            refine wpT_step rfl ?_
            intro K1 hK1
            go_wp2_with fail
            have HY := hide (HSX.out.alloc HSX.out.size (.cells #[.bool (rowB n r x)] 4))
            have HN9 := hide (own_below HN8.out (bel_one v0 (.cells #[.bool (rowB n r x)] 4)))
            have HC := hide (cell_one (w := v0) (.bool (rowB n r x)) 4)
            have HSZ := hide (show w2.heap.size ≤ (v0.alloc (.cells #[.bool (rowB n r x)] 4)).heap.size from HY.out.size)
            refine hK1.out _ _ (fun _ => pin_mem HY.out) ?_
            clear hK1 HN8
            generalize v0.alloc (.cells #[.bool (rowB n r x)] 4) = x2 at *
            generalize v0.heap.size = nb at *
            refine wpT_step rfl ?_
            intro K1 hK1
            refine wp_append_lies _ (.tmp 34) (.tmp 45) 31 rfl w2.heap.size 4 ui _ 1 1 Tryz.underlying31 hu1 uz us ub rfl (by decide) _ _ _ rfl HN9.out ⟨nb, 0, none⟩ 1 1 [.bool (rowB n r x)] rfl rfl HC.out ?ones (by omega) ?c63 ?cby HSZ.out _ rfl ?_
            case ones => simp [Value.oneCell']
            case c63 => unfold maxLen; omega
            case cby => omega
            intro gm cgm y2 hown hgr _ _
            have HE := hide (show BOwn w2.heap.size y2 (.slice (some ⟨gm, 0, none⟩) (nx ++ [rowB n r x]).length cgm) (nx ++ [rowB n r x]) ∧ Below w2.heap.size w2 y2 from ⟨bown_snoc hown, HY.out.grown hgr HSZ.out (fun q hq => (HN9.out.lt q hq).1)⟩)
            clear hown hgr
            refine hK1.out _ _ (fun _ => pin_mem HE.out.2) ?_
            clear hK1 HN9 HC
            refine wpT_take ?_
            repeat (first | go_big_quiet_step ((fail)) | quiet_step ((fail)))
            refine wpQuiet_nil ?_
            refine wpT_done ?_
            go_wp2_with fail
            go_roundw
            case rel => exact ⟨k + 1, some ⟨gm, 0, none⟩, cgm, by go_num, HKL.out, by rw [HFN.out] <;> simp, by rw [HFN.out]; exact HE.out.1, HE.out.2⟩
            case measure => have := HKL.out; simp [intOf]; omega
          · obtain rfl : k = l.length := by omega
            have e1 : decide (l.length < l.length) = false := decide_eq_false (by omega)
            have e1' : decide ((l.length : Int) < (l.length : Int)) = false := decide_eq_false (by omega)
            have ht := List.take_length (l := l)
            rw [ht] at HN
            rw [ht]
            have HE := hide (show LeastTab res w (.returned (.tuple #[.slice B2 (l.map (rowB n r)).length d4, .bool true])) wr from by rw [HRES.out]; exact ⟨below_wide HB.out HQ.out, _, rfl, own_base HN.out HB.out.size⟩)
            clear hN hbq ht
            go_wp2_with fail
            go_ret2
            exact HE.out
    · obtain rfl : i = L.length := by omega
      have d1 : decide (L.length < L.length) = false := decide_eq_false (by omega)
      have d1' : decide ((L.length : Int) < (L.length : Int)) = false := decide_eq_false (by omega)
      have hno := HNO.out
      rw [List.take_length] at hno
      have HE := hide (show LeastTab res w (.returned (.tuple #[.slice none 0 0, .bool false])) wr from by rw [HLR.out, find_non hno]; exact ⟨HB.out, rfl⟩)
      clear hno HNO
      go_wp2_with fail
      go_ret2
      exact HE.out
end Go.Proofs.YtgfjdkkfgclhjaaGreat.Bd
/- The document's Fits, walked. -/
namespace Go.Proofs.YtgfjdkkfgclhjaaGreat.Bd
open Go.RowKit Go.Proofs.YtgfjdkkfgclhjaaGreat Go.Proofs.YtgfjdkkfgclhjaaGreat.Lx Go.Maps

/-- the list rises, is of variables, and has all on which the function hangs -/
structure FitsP (n : Nat) (f : Tb) (l : List Int) : Prop where
  rise : RiseI l l.length
  rng : ∀ x ∈ l, 0 ≤ x ∧ x < (n : Int)
  sup : ∀ v ∈ supR n f, (v : Int) ∈ l
def FitsOut (n : Nat) (f : Tb) (l : List Int) (w : World) (e : Ending) (w' : World) : Prop := ∃ b, e = .returned (.bool b) ∧ (b = true ↔ FitsP n f l) ∧ Below w.heap.size w w'
theorem fits_no {n : Nat} {f : Tb} {l : List Int} {w w' : World} (h : ¬ FitsP n f l) (hb : Below w.heap.size w w') : FitsOut n f l w (.returned (.bool false)) w' := ⟨false, rfl, ⟨fun e => (by cases e), fun e => absurd e h⟩, hb⟩
set_option maxHeartbeats 4000000 in
set_option maxRecDepth 100000 in
theorem Fits_any (n : Nat) (f : Tb) (l : List Int) (A1 A2 : Option Addr) (c1 c2 : Nat) (w : World) (hn : n ≤ 6) (h1 : Src w A1 f.length c1 1 (f.map Value.bool)) (hfl : f.length = 2 ^ n) (h2 : Src w A2 l.length c2 1 (l.map encI)) (hln : l.length ≤ maxLen) :
    Calls Tryz.prog 22 #[.int .i64 n, .slice A1 f.length c1, .slice A2 l.length c2] w (FitsOut n f l w) := by
  have H1 := hide h1
  have H2 := hide h2
  have HSU := hide (fun (w' : World) (h : Below w.heap.size w w') => Support_tab n f A1 c1 w' hn (h1.below h) hfl)
  have hsl := supR_len n f n
  rw [show (List.range n).filter (supP n f) = supR n f from rfl] at hsl
  unfold maxLen at hln
  clear h1 h2 hfl
  go_enter Tryz.func22, Tryz.ntmps22
  go_wp2_with fail
  go_loopw [7] (fun j wr => ∃ i : Nat, j = .int .i64 i ∧ i ≤ l.length ∧ RiseI l i ∧ (∀ x ∈ l.take i, 0 ≤ x ∧ x < (n : Int)) ∧ Below w.heap.size w wr) (fun j _ => l.length - (intOf j).toNat)
  case atStart => exact ⟨0, rfl, Nat.zero_le _, fun j x y h => by omega, fun x hx => by simp at hx, Below.refl _ _⟩
  case round =>
    obtain ⟨i, rfl, hi, hR, hG, hb⟩ := hrel
    have HR := hide hR
    have HG := hide hG
    have HB := hide hb
    rcases Nat.lt_or_ge i l.length with hlt | hge
    · have d1 : decide (i < l.length) = true := decide_eq_true hlt
      have d1' : decide ((i : Int) < (l.length : Int)) = true := decide_eq_true (by omega)
      have d2 : ((i : Int) < (l.length : Int)) := by omega
      obtain ⟨x, hx⟩ : ∃ x, l[i]? = some x := ⟨_, List.getElem?_eq_getElem hlt⟩
      obtain ⟨a, rfl, x0⟩ := src_at (H2.out.below hb) hx
      have x1 := lat_cell x0
      have HX := hide hx
      have HLT := hide hlt
      clear hR hG hb hx hlt x0
      by_cases g1 : x < 0
      · have f1 : decide (x < 0) = true := decide_eq_true g1
        have HF := hide (show ¬ FitsP n f l from fun h => by have := (h.rng x (List.mem_of_getElem? HX.out)).1; omega)
        go_wp2_with fail
        refine wp_region_lat (by kernel_rfl) (by kernel_rfl) ?_
        repeat (first | go_big_quiet_step ((fail)) | quiet_step ((fail)))
        refine wpQuiet_nil ?_
        intro _ hlat
        obtain ⟨wq, rfl⟩ := hlat
        go_wp2_with fail
        go_ret
        exact fits_no HF.out (below_wide HB.out (lat_below _ _))
      have f1 : decide (x < 0) = false := decide_eq_false g1
      by_cases g2 : (n : Int) ≤ x
      · have f2 : decide ((n : Int) ≤ x) = true := decide_eq_true g2
        have HF := hide (show ¬ FitsP n f l from fun h => by have := (h.rng x (List.mem_of_getElem? HX.out)).2; omega)
        go_wp2_with fail
        refine wp_region_lat (by kernel_rfl) (by kernel_rfl) ?_
        repeat (first | go_big_quiet_step ((fail)) | quiet_step ((fail)))
        refine wpQuiet_nil ?_
        intro _ hlat
        obtain ⟨wq, rfl⟩ := hlat
        go_wp2_with fail
        go_ret
        exact fits_no HF.out (below_wide HB.out (lat_below _ _))
      have f2 : decide ((n : Int) ≤ x) = false := decide_eq_false g2
      have HGN := hide (show ∀ y ∈ l.take (i + 1), 0 ≤ y ∧ y < (n : Int) from fun y hy => by
        rw [List.take_add_one, HX.out] at hy
        rcases List.mem_append.1 hy with h | h
        · exact HG.out y h
        · simp at h
          omega)
      by_cases hpos : 0 < i
      · have HIK := hide (show ∃ k, i = k + 1 from ⟨i - 1, by omega⟩)
        obtain ⟨k, hik⟩ := HIK.out
        obtain ⟨y, hy⟩ : ∃ y, l[k]? = some y := ⟨_, List.getElem?_eq_getElem (by have := HLT.out; omega)⟩
        obtain ⟨a', e', y0⟩ := src_at (H2.out.below HB.out) hy
        cases e'
        have y1 := lat_cell y0
        have f3 : decide (0 < i) = true := decide_eq_true hpos
        have f3' : decide ((0 : Int) < (i : Int)) = true := decide_eq_true (by omega)
        have f5 : ((k : Int) < (l.length : Int)) := by have := HLT.out; omega
        have f6 : ((i : Int) - 1) = (k : Int) := by omega
        have HY := hide hy
        have HK := hide hik
        clear y0 hy g1 g2 hik HIK hpos
        by_cases g3 : x ≤ y
        · have f7 : decide (x ≤ y) = true := decide_eq_true g3
          have HF := hide (show ¬ FitsP n f l from fun h => by
            have h1 := HX.out
            have h2 := HLT.out
            rw [HK.out] at h1 h2
            have := h.rise k y x h2 HY.out h1
            omega)
          clear g3
          go_wp2_with fail
          refine wp_region_lat (by kernel_rfl) (by kernel_rfl) ?_
          repeat (first | go_big_quiet_step ((fail)) | quiet_step ((fail)))
          refine wpQuiet_nil ?_
          intro _ hlat
          obtain ⟨wq, rfl⟩ := hlat
          go_wp2_with fail
          go_ret
          exact fits_no HF.out (below_wide HB.out (lat_below _ _))
        · have f7 : decide (x ≤ y) = false := decide_eq_false g3
          have HRN := hide (show RiseI l (i + 1) from by
            have h1 := HX.out
            have h2 := HR.out
            rw [HK.out] at h1 h2 ⊢
            exact h2.next HY.out h1 (by omega))
          clear g3
          go_wp2_with fail
          refine wp_region_lat (by kernel_rfl) (by kernel_rfl) ?_
          repeat (first | go_big_quiet_step ((fail)) | quiet_step ((fail)))
          refine wpQuiet_nil ?_
          intro _ hlat
          obtain ⟨wq, rfl⟩ := hlat
          go_wp2_with fail
          go_roundw
          case rel => exact ⟨i + 1, by go_num, HLT.out, HRN.out, HGN.out, below_wide HB.out (lat_below _ _)⟩
          case measure => have := HLT.out; simp [intOf]; omega
      · have HRN := hide (show RiseI l (i + 1) from fun j a b hj => by omega)
        have f3 : decide (0 < i) = false := decide_eq_false hpos
        have f3' : decide ((0 : Int) < (i : Int)) = false := decide_eq_false (by omega)
        clear g1 g2 hpos
        go_wp2_with fail
        refine wp_region_lat (by kernel_rfl) (by kernel_rfl) ?_
        repeat (first | go_big_quiet_step ((fail)) | quiet_step ((fail)))
        refine wpQuiet_nil ?_
        intro _ hlat
        obtain ⟨wq, rfl⟩ := hlat
        go_wp2_with fail
        go_roundw
        case rel => exact ⟨i + 1, by go_num, HLT.out, HRN.out, HGN.out, below_wide HB.out (lat_below _ _)⟩
        case measure => have := HLT.out; simp [intOf]; omega
    · obtain rfl : i = l.length := by omega
      have d1 : decide (l.length < l.length) = false := decide_eq_false (by omega)
      have d1' : decide ((l.length : Int) < (l.length : Int)) = false := decide_eq_false (by omega)
      have hG2 := hG
      rw [List.take_length] at hG2
      have HG2 := hide hG2
      have HS := hide (HSU.out wr hb)
      have HS2 := hide (H2.out.below hb)
      clear hR hG hG2 hb HSU
      go_wp2_with fail
      refine HS.out.mono ?_
      rintro e w1 ⟨V, rfl, hI, hb1⟩
      obtain ⟨B, d, rfl⟩ := own_slice hI
      have HB1 := hide (below_wide HB.out hb1)
      have HI := hide hI
      have HFF := hide (show (∀ v ∈ supR n f, (v : Int) ∈ l) → FitsP n f l from fun h => ⟨HR.out, HG2.out, h⟩)
      have HMS := hide (show FitsP n f l → ∀ v ∈ supR n f, (v : Int) ∈ l from fun h => h.sup)
      generalize supR n f = ms at *
      have HS3 := hide (HS2.out.below hb1)
      clear hI hb1 HS HS2
      obtain ⟨w2, rfl⟩ : ∃ y, y = w1 := ⟨w1, rfl⟩
      go_wp2_with fail
      go_loopw [9, 10, 11] (fun j _ _ wr => ∃ i : Nat, j = .int .i64 i ∧ i ≤ ms.length ∧ (∀ v ∈ ms.take i, (v : Int) ∈ l) ∧ Below w2.heap.size w2 wr) (fun j _ _ _ => ms.length - (intOf j).toNat)
      case atStart => exact ⟨0, rfl, Nat.zero_le _, fun v hv => by simp at hv, Below.refl _ _⟩
      case round =>
        obtain ⟨i, rfl, hi2, hin, hbr⟩ := hrel
        have HIN := hide hin
        have HBR := hide hbr
        rcases Nat.lt_or_ge i ms.length with hlt | hge2
        · have e1 : decide (i < ms.length) = true := decide_eq_true hlt
          have e1' : decide ((i : Int) < (ms.length : Int)) = true := decide_eq_true (by omega)
          have e2 : ((i : Int) < (ms.length : Int)) := by omega
          obtain ⟨v, hv⟩ : ∃ v, ms[i]? = some v := ⟨_, List.getElem?_eq_getElem hlt⟩
          have HV := hide hv
          have HLT := hide hlt
          clear hin hbr hv hlt
          go_wp2_with fail
          go_loopw [10, 11] (fun fb j wr => ∃ (k : Nat) (b : Bool), j = .int .i64 k ∧ fb = .bool b ∧ b = decide ((v : Int) ∈ l.take k) ∧ k ≤ l.length ∧ Below w2.heap.size w2 wr) (fun _ j _ => l.length - (intOf j).toNat)
          case atStart => exact ⟨0, false, rfl, rfl, by simp, Nat.zero_le _, HBR.out⟩
          case round =>
            obtain ⟨k, b, rfl, rfl, hbb, hk, hbq⟩ := hrel
            have HBB := hide hbb
            have HBQ := hide hbq
            rcases Nat.lt_or_ge k l.length with hkl | hkg
            · have p1 : decide (k < l.length) = true := decide_eq_true hkl
              have p1' : decide ((k : Int) < (l.length : Int)) = true := decide_eq_true (by omega)
              have p2 : ((k : Int) < (l.length : Int)) := by omega
              obtain ⟨x, hx⟩ : ∃ x, l[k]? = some x := ⟨_, List.getElem?_eq_getElem hkl⟩
              obtain ⟨a, rfl, x0⟩ := src_at (HS3.out.below hbq) hx
              obtain ⟨a1, rfl, v0⟩ := src_at (HI.out.src.below hbq) (enc_at HV.out)
              have x1 := lat_cell x0
              have v1 := lat_cell v0
              have HNX := hide (show decide ((v : Int) ∈ l.take (k + 1)) = (b || decide (x = (v : Int))) from by
                rw [hbb, List.take_add_one, hx, ← Bool.decide_or, decide_eq_decide]
                simp only [Option.toList_some, List.mem_append, List.mem_singleton]
                exact ⟨fun h => h.imp id Eq.symm, fun h => h.imp id Eq.symm⟩)
              have HKL := hide hkl
              clear hbb hbq hx hkl x0 v0
              cases b
              · by_cases g : x = (v : Int)
                · have q1 : (x == (v : Int)) = true := beq_iff_eq.2 g
                  have q2 : decide (x = (v : Int)) = true := decide_eq_true g
                  rw [q2] at HNX
                  clear g
                  go_wp2_with fail
                  refine wp_region_lat (by kernel_rfl) (by kernel_rfl) ?_
                  repeat (first | go_big_quiet_step ((fail)) | quiet_step ((fail)))
                  refine wpQuiet_nil ?_
                  intro _ hlat
                  obtain ⟨wq, rfl⟩ := hlat
                  go_wp2_with fail
                  go_roundw
                  case rel => exact ⟨k + 1, true, by go_num, rfl, by rw [HNX.out]; rfl, HKL.out, below_wide HBQ.out (lat_below _ _)⟩
                  case measure => have := HKL.out; simp [intOf]; omega
                · have q1 : (x == (v : Int)) = false := beq_eq_false_iff_ne.2 g
                  have q2 : decide (x = (v : Int)) = false := decide_eq_false g
                  rw [q2] at HNX
                  clear g
                  go_wp2_with fail
                  refine wp_region_lat (by kernel_rfl) (by kernel_rfl) ?_
                  repeat (first | go_big_quiet_step ((fail)) | quiet_step ((fail)))
                  refine wpQuiet_nil ?_
                  intro _ hlat
                  obtain ⟨wq, rfl⟩ := hlat
                  go_wp2_with fail
                  go_roundw
                  case rel => exact ⟨k + 1, false, by go_num, rfl, by rw [HNX.out]; rfl, HKL.out, below_wide HBQ.out (lat_below _ _)⟩
                  case measure => have := HKL.out; simp [intOf]; omega
              · go_wp2_with fail
                refine wp_region_lat (by kernel_rfl) (by kernel_rfl) ?_
                repeat (first | go_big_quiet_step ((fail)) | quiet_step ((fail)))
                refine wpQuiet_nil ?_
                intro _ hlat
                obtain ⟨wq, rfl⟩ := hlat
                go_wp2_with fail
                go_roundw
                case rel => exact ⟨k + 1, true, by go_num, rfl, by rw [HNX.out]; rfl, HKL.out, below_wide HBQ.out (lat_below _ _)⟩
                case measure => have := HKL.out; simp [intOf]; omega
            · obtain rfl : k = l.length := by omega
              have p1 : decide (l.length < l.length) = false := decide_eq_false (by omega)
              have p1' : decide ((l.length : Int) < (l.length : Int)) = false := decide_eq_false (by omega)
              have hb2 := hbb
              rw [List.take_length] at hb2
              have HB2 := hide hb2
              clear hbb hb2 hbq
              cases b
              · have HF := hide (show ¬ FitsP n f l from fun h => by
                  have h1 := HMS.out h v (List.mem_of_getElem? HV.out)
                  have h2 := HB2.out
                  rw [decide_eq_true h1] at h2
                  cases h2)
                go_wp2_with fail
                go_ret
                exact fits_no HF.out (below_wide HB1.out HBQ.out)
              · have HM := hide (of_decide_eq_true HB2.out.symm)
                go_wp2_with fail
                go_roundw
                case rel => exact ⟨i + 1, by go_num, HLT.out, fun u hu => by
                  rw [List.take_add_one, HV.out] at hu
                  rcases List.mem_append.1 hu with h | h
                  · exact HIN.out u h
                  · simp at h
                    rw [h]
                    exact HM.out, HBQ.out⟩
                case measure => have := HLT.out; simp [intOf]; omega
        · obtain rfl : i = ms.length := by omega
          have e1 : decide (ms.length < ms.length) = false := decide_eq_false (by omega)
          have e1' : decide ((ms.length : Int) < (ms.length : Int)) = false := decide_eq_false (by omega)
          rw [List.take_length] at hin
          have HE := hide (show FitsOut n f l w (.returned (.bool true)) wr from ⟨true, rfl, ⟨fun _ => HFF.out hin, fun _ => rfl⟩, below_wide HB1.out hbr⟩)
          clear hin hbr
          go_wp2_with fail
          go_ret
          exact HE.out
end Go.Proofs.YtgfjdkkfgclhjaaGreat.Bd
