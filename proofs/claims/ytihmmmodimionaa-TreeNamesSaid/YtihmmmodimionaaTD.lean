/- The reader of statements: list, by what statement does. -/
import Derived.Test.YtihmmmodimionaaTC
import Derived.Test.YtihmmmodimionaaTP
namespace Go.Proofs.Ytihmmmodimionaa.Tr
open Go.RowKit Go.Proofs.Ytihmmmodimionaa Go.Proofs.Ytihmmmodimionaa.Lx

theorem infoN : (Try.prog.info? 44).map (fun i => (i.zero, i.size, i.bytes)) = some (some (.agg #[.slice none 0 0, .slice none 0 0, .bool false, .slice none 0 0]), 4, 80) := by kernel_rfl
/-- statements in a row of the call's own -/
structure Lo (w wr : World) (v : Value) (F : Fo) (xs : List Value) (B : Nat → Prop) : Prop where
  own : wr.ownsRow w.heap.size 44 4 v F.len xs
  fo : FoV wr B F xs
  hB : ∀ b, B b → w.heap.size ≤ b ∧ b < wr.heap.size ∧ v.ownBlock ≠ some b
/-- what list and statement hand back -/
def ListOut (N p : Nat) (w : World) (r : PR) (e' : Ending) (w' : World) : Prop :=
  Only p w w' ∧ match r with
  | .ok F rest => ∃ v A cap xs B, e' = .returned v ∧ Lo w w' v F xs B ∧ RdX w' p A cap rest 0 0 0
  | .err e l c => e ≠ 0 ∧ ∃ v A cap n xs ts, e' = .returned v ∧ w'.ownsRow w.heap.size 44 4 v n xs ∧ (∀ u ∈ xs, u.oneCell' = true) ∧ n ≤ N ∧ RdX w' p A cap ts e l c
theorem lo_start (w : World) : Lo w w (.slice none 0 0) .nil [] (fun _ => False) := ⟨⟨rfl, .inl ⟨rfl, rfl⟩⟩, rfl, fun b h => by cases h⟩
theorem Lo.grow {w wr w' : World} {v : Value} {F : Fo} {xs : List Value} {B : Nat → Prop} (h : Lo w wr v F xs B) {row : Option Nat} (hg : wr.grownBy w' row) (hr : ∀ b, row = some b → b < w.heap.size) : Lo w w' v F xs B := by
  refine ⟨h.own.kept hg ?_, h.fo.keep (fun b hb => hg.block b (h.hB b hb).2.1 (fun e => ?_)), fun b hb => ⟨(h.hB b hb).1, Nat.lt_of_lt_of_le (h.hB b hb).2.1 hg.size, (h.hB b hb).2.2⟩⟩
  · cases hv : v.ownBlock with
    | none => exact .inl rfl
    | some g =>
      refine .inr (fun e => ?_)
      have h1 := hr g e.symm
      have h2 := (h.own.lt g hv).1
      omega
  · have h1 := hr b e.symm
    have h2 := (h.hB b hb).1
    omega
theorem Lo.base {w w0 wr : World} {v : Value} {F : Fo} {xs : List Value} {B : Nat → Prop} (h : Lo w wr v F xs B) (hb : w0.heap.size ≤ w.heap.size) : Lo w0 wr v F xs B :=
  ⟨own_base h.own hb, h.fo, fun b hb' => ⟨Nat.le_trans hb (h.hB b hb').1, (h.hB b hb').2⟩⟩
/-- .. a statement's row behind it -/
theorem Lo.app {w w1 w2 w3 : World} {v u v' : Value} {F G : Fo} {xs ys : List Value} {B D : Nat → Prop} (h : Lo w w2 v F xs B) (k : Lo w1 w2 u G ys D) (hw : ∀ g, v.ownBlock = some g → g < w1.heap.size) (hww : w.heap.size ≤ w1.heap.size) (ho : w3.ownsRow w.heap.size 44 4 v' (F.len + G.len) (xs ++ ys)) (hg : w2.grownBy w3 v.ownBlock) (hk : v'.ownBlock = v.ownBlock ∨ v'.ownBlock = some w2.heap.size) : Lo w w3 v' (F.app G) (xs ++ ys) (fun b => B b ∨ D b) := by
  have hne : ∀ b, B b ∨ D b → v.ownBlock ≠ some b := by
    intro b hb e
    rcases hb with hb | hb
    · exact (h.hB b hb).2.2 e
    · have h1 := hw b e
      have h2 := (k.hB b hb).1
      omega
  have hlt : ∀ b, B b ∨ D b → b < w2.heap.size := by
    intro b hb
    rcases hb with hb | hb
    · exact (h.hB b hb).2.1
    · exact (k.hB b hb).2.1
  refine ⟨by rw [Fo.len_app]; exact ho, FoV.app ((h.fo.keep (fun b hb => ?_)).mono (fun b hb => .inl hb)) ((k.fo.keep (fun b hb => ?_)).mono (fun b hb => .inr hb)), fun b hb => ⟨?_, ?_, ?_⟩⟩
  · exact hg.block b (hlt b (.inl hb)) (fun e => hne b (.inl hb) e.symm)
  · exact hg.block b (hlt b (.inr hb)) (fun e => hne b (.inr hb) e.symm)
  · rcases hb with hb | hb
    · exact (h.hB b hb).1
    · have := (k.hB b hb).1; omega
  · exact Nat.lt_of_lt_of_le (hlt b hb) hg.size
  · rcases hk with e | e
    · rw [e]; exact hne b hb
    · rw [e]
      intro e'
      injection e' with e'
      have := hlt b hb
      omega
theorem tailS_len {rec : Pl → List BTok → PR} {deep : Nat} {first : Pl} {n : List BTok} {all : Fo} {toks : List BTok} {F : Fo} {r : List BTok} (hr : ∀ o ts K q, rec o ts = .ok K q → q.length ≤ ts.length) (h : tailS rec deep first n all toks = .ok F r) : F.len + r.length ≤ max 1 all.len + toks.length - 1 := by
  cases toks with
  | nil => cases h
  | cons t ts =>
    rw [tailS] at h
    by_cases k4 : t.k = 4
    · rw [if_pos k4] at h
      injection h with h1 h2
      rw [← h1, ← h2]
      by_cases h0 : all.len = 0
      · rw [if_pos h0]; simp [Fo.len]; omega
      · rw [if_neg h0]; simp; omega
    · rw [if_neg k4] at h
      by_cases k2 : t.k = 2 ∧ all.len = 0
      · rw [if_pos k2] at h
        by_cases hd : deep = 32
        · rw [if_pos hd] at h; cases h
        · rw [if_neg hd] at h
          cases e : rec t.pos ts with
          | err e' l c => rw [e] at h; cases h
          | ok K q =>
            rw [e] at h
            injection h with h1 h2
            have := hr _ _ _ _ e
            rw [← h1, ← h2]
            simp [Fo.len]; omega
      · rw [if_neg k2] at h; cases h
theorem stmtF_len {rec : Pl → List BTok → PR} {deep : Nat} {first : Pl} {t : BTok} {ts : List BTok} {F : Fo} {r : List BTok} (hk : t.k = 1) (hr : ∀ o ts K q, rec o ts = .ok K q → q.length ≤ ts.length) (h : stmtF rec deep first (t :: ts) = .ok F r) : F.len + r.length ≤ (t :: ts).length := by
  have hb := congrArg List.length (words_behind (t :: ts))
  rw [wordsT, if_pos hk] at hb
  simp only [List.length_append, List.length_cons] at hb
  unfold stmtF at h
  split at h
  · cases h
  · rename_i x xs e
    rw [e] at hb
    simp only [List.length_cons] at hb
    split at h
    · have hb2 := congrArg List.length (words_behind xs)
      split at h
      · cases h
      · rename_i u us e2
        rw [e2] at hb2
        simp only [List.length_append, List.length_cons] at hb2
        split at h
        · have := tailS_len hr h
          rw [leafs_len] at this
          simp
          omega
        · cases h
    · have := tailS_len hr h
      simp [Fo.len] at this ⊢
      omega
theorem tailS_some {rec : Pl → List BTok → PR} {deep : Nat} {first : Pl} {n : List BTok} {all : Fo} {toks : List BTok} {F : Fo} {r : List BTok} (h : tailS rec deep first n all toks = .ok F r) : 1 ≤ F.len := by
  cases toks with
  | nil => cases h
  | cons t ts =>
    rw [tailS] at h
    by_cases k4 : t.k = 4
    · rw [if_pos k4] at h
      injection h with h1 h2
      rw [← h1]
      by_cases h0 : all.len = 0
      · rw [if_pos h0]; simp [Fo.len]
      · rw [if_neg h0]; omega
    · rw [if_neg k4] at h
      by_cases k2 : t.k = 2 ∧ all.len = 0
      · rw [if_pos k2] at h
        by_cases hd : deep = 32
        · rw [if_pos hd] at h; cases h
        · rw [if_neg hd] at h
          cases e : rec t.pos ts with
          | err e' l c => rw [e] at h; cases h
          | ok K q =>
            rw [e] at h
            injection h with h1 h2
            rw [← h1]
            simp [Fo.len]
      · rw [if_neg k2] at h; cases h
theorem stmtF_some {rec : Pl → List BTok → PR} {deep : Nat} {first : Pl} {toks : List BTok} {F : Fo} {r : List BTok} (h : stmtF rec deep first toks = .ok F r) : 1 ≤ F.len := by
  unfold stmtF at h
  split at h
  · cases h
  · split at h
    · split at h
      · cases h
      · split at h
        · exact tailS_some h
        · cases h
    · exact tailS_some h
/-- list, in its loop: all is well so far -/
structure LL (p : Nat) (w wr : World) (op : Pl) (v : Value) (F : Fo) (xs : List Value) (B : Nat → Prop) (A : Option Addr) (cap : Nat) (ts : List BTok) : Prop where
  o : Only p w wr
  box : wr.heap[w.heap.size]? = some (.cells #[.int .i64 op.1, .int .i64 op.2] 24 (0, 0))
  lo : Lo w wr v F xs B
  r : RdX wr p A cap ts 0 0 0
/-- .. or the first error has been met -/
structure LE (p : Nat) (w wr : World) (v : Value) (n : Nat) (xs : List Value) (A : Option Addr) (cap : Nat) (ts : List BTok) (e l c : Int) : Prop where
  ne : e ≠ 0
  o : Only p w wr
  own : wr.ownsRow w.heap.size 44 4 v n xs
  one : ∀ u ∈ xs, u.oneCell' = true
  n : n ≤ 200000
  r : RdX wr p A cap ts e l c
theorem own_some {w : World} {base n : Nat} {e : TypeId} {v : Value} {xs : List Value} {size : Nat} (h : w.ownsRow base e size v n xs) (hn : 1 ≤ n) : ∃ g c, v = .slice (some ⟨g, 0, none⟩) n c ∧ base ≤ g ∧ g < w.heap.size := by
  have hl := h.lt
  rcases h.2 with ⟨h1, h2⟩ | ⟨g, cap, cur, h1, h2⟩
  · omega
  · subst h1
    exact ⟨g, cap, rfl, hl g rfl⟩
theorem own_cells {w : World} {base n g c : Nat} {e : TypeId} {xs : List Value} {size : Nat} (h : w.ownsRow base e size (.slice (some ⟨g, 0, none⟩) n c) n xs) : ∀ j x, xs[j]? = some x → w.cell? ((⟨g, 0, none⟩ : Addr).add j) = some x := by
  intro j x hj
  rcases h.2 with ⟨h1, _⟩ | ⟨g', cap, cur, h1, _, h3, _, _, _, h5⟩
  · cases h1
  · injection h1 with h1
    injection h1 with h1
    injection h1 with h1
    subst h1
    rw [show (⟨g, 0, none⟩ : Addr).add j = ⟨g, j, none⟩ by simp [Addr.add, eq_comm]]
    refine cell_heap h3 ?_
    have hl : j < n * size := by
      have := (List.getElem?_eq_some_iff.1 hj).1
      rw [h.1] at this
      exact this
    rw [← h5, List.getElem?_take_of_lt hl] at hj
    simpa using hj
theorem own_src {w : World} {base n c : Nat} {A : Option Addr} {e : TypeId} {xs : List Value} {size : Nat} (h : w.ownsRow base e size (.slice A n c) n xs) : Src w A n c size xs := by
  refine ⟨h.1, ?_⟩
  rcases h.2 with ⟨h1, h2⟩ | ⟨g', cap, cur, h1, _⟩
  · cases h1
    exact .inl ⟨rfl, rfl, rfl⟩
  · cases h1
    exact .inr ⟨_, rfl, own_cells h⟩
/-- what statement is to do -/
def StmtOK (p g : Nat) : Prop := ∀ (deep : Nat) (A : Option Addr) (cap : Nat) (t : BTok) (ts : List BTok) (w : World), deep ≤ 32 → t.k = 1 → ts.length + 1 ≤ 100000 → ts.length < g → RdX w p A cap (t :: ts) 0 0 0 →
  Calls Try.prog 63 #[.pointer (some ⟨p, 0, none⟩), .int .i64 deep] w (ListOut 1 p w (stmtF (fun o r => listF g (deep + 1) o r) deep t.pos (t :: ts)))
set_option maxHeartbeats 8000000 in
set_option maxRecDepth 100000 in
theorem list_walk (p f : Nat) (HST : Hid (∀ g, g < f → StmtOK p g)) (deep : Nat) (op : Pl) (A : Option Addr) (cap : Nat) (ts : List BTok) (w : World) (h : RdX w p A cap ts 0 0 0) (hd : deep ≤ 32) (hf : ts.length < f) (hl : ts.length ≤ 100000) :
    Calls Try.prog 35 #[.pointer (some ⟨p, 0, none⟩), .int .i64 deep, .agg #[.int .i64 op.1, .int .i64 op.2]] w (ListOut 200000 p w (listF f deep op ts)) := by
  have hp := lt_heap h.h
  obtain ⟨ni, nz0, nz, ns, nb⟩ := info_parts infoN
  have HS0 := hide (show LL p w (w.alloc (.cells #[.int .i64 op.1, .int .i64 op.2] 24)) op (.slice none 0 0) .nil [] (fun _ => False) A cap ts from ⟨only_alloc (only_refl p w) _, heap_new w _, (lo_start w).grow (World.grownBy_alloc w _ none) (fun b e => by cases e), h.below (bel_one w _)⟩)
  clear h
  go_enter Try.func35, Try.ntmps35
  go_wp2_with fail
  go_loopg [7] (ts.length + 1) (fun g v wr => (∃ (F : Fo) (xs : List Value) (B : Nat → Prop) (A' : Option Addr) (cap' : Nat) (ts' : List BTok) (f' : Nat), LL p w wr op v F xs B A' cap' ts' ∧ ts'.length + 1 ≤ g ∧ ts'.length < f' ∧ f' ≤ f ∧ F.len + ts'.length ≤ 100000 ∧ listF f deep op ts = putF F (listF f' deep op ts')) ∨ (∃ (n : Nat) (xs : List Value) (A' : Option Addr) (cap' : Nat) (ts' : List BTok) (e l c : Int), LE p w wr v n xs A' cap' ts' e l c ∧ listF f deep op ts = .err e l c))
  case atStart => exact .inl ⟨.nil, [], _, A, cap, ts, f, HS0.out, Nat.le_refl _, hf, Nat.le_refl _, by simpa [Fo.len] using hl, (putF_nil _).symm⟩
  case round =>
    clear HS0
    rcases hrel with ⟨F, xs, B, A', cap', ts', f', hX, hg, hf', hff, hlen, heq⟩ | ⟨n, xs, A', cap', ts', e, l, c, hX, heq⟩
    · obtain ⟨Av, cv, rfl⟩ := own_slice hX.lo.own
      obtain ⟨f1, rfl⟩ : ∃ f1, f' = f1 + 1 := ⟨f' - 1, by omega⟩
      have r1 := cell_heap (j := 1) hX.r.h rfl
      have r0 := cell_heap (j := 0) hX.r.h rfl
      have b0 := cell_heap (j := 0) hX.box rfl
      have b1 := cell_heap (j := 1) hX.box rfl
      have hFl : F.len ≤ 100000 := by omega
      have HN := hide (next_any p A' cap' ts' 0 0 0 wr hX.r (by omega))
      have HX := hide hX
      have HQ := hide heq
      clear hX heq
      cases ts' with
      | nil =>
        rw [show kindT [] = 0 from rfl] at HN
        have hq : listF f deep op ts = if deep = 0 then .ok F [] else .err 71 op.1 op.2 := by
          rw [HQ.out, listF]
          split <;> simp [putF, Fo.app_nil]
        have HQ2 := hide hq
        clear hq
        rcases Nat.eq_zero_or_pos deep with h0 | h0
        · have hd0 : decide ((0 : Int) < (deep : Int)) = false := by simp; omega
          have hd1 : decide (0 < deep) = false := by simp; omega
          have HZ := hide h0
          clear h0
          go_wp2_with fail
          refine HN.out.mono ?_
          rintro e w2 ⟨rfl, rfl⟩
          go_wp2_with fail
          (try simp only [Exit.inBlock, Exit.then])
          go_ret
          rw [HQ2.out, if_pos HZ.out]
          exact ⟨HX.out.o, _, _, _, _, _, rfl, HX.out.lo, HX.out.r⟩
        · have hd0 : decide ((0 : Int) < (deep : Int)) = true := by simp; omega
          have hd1 : decide (0 < deep) = true := by simp; omega
          have HZ := hide h0
          clear h0
          have HFL := hide (fail_any p A' cap' [] 71 op.1 op.2 wr HX.out.r)
          go_wp2_with fail
          refine HN.out.mono ?_
          rintro e w2 ⟨rfl, rfl⟩
          go_wp2_with fail
          refine HFL.out.mono ?_
          rintro e w3 ⟨rfl, ho, hr⟩
          have HO := hide ho
          have HR := hide hr
          clear ho hr
          go_wp2_with fail
          (try simp only [Exit.inBlock, Exit.then])
          go_ret
          rw [HQ2.out, if_neg (by have := HZ.out; omega)]
          have hl3 := HX.out.lo.grow HO.out (fun b e => by injection e with e; omega)
          exact ⟨only_trans HX.out.o HO.out, by decide, _, _, _, _, _, _, rfl, hl3.own, hl3.fo.one, by omega, HR.out⟩
      | cons t ts'' =>
        rw [show kindT (t :: ts'') = t.k from rfl] at HN
        simp only [List.length_cons] at hg hf' hlen
        obtain ⟨ad, rfl, q0, q1, q2, q3⟩ := HX.out.r.t.head
        have hsp : ad.spot = none := World.cell?_spot q0
        obtain ⟨bk, of, sp⟩ := ad
        cases hsp
        have d0 : ((0 : Int) < ((ts''.length + 1 : Nat) : Int)) := by omega
        have d2 : ((0 : Int) < (ts''.length : Int) + 1) := by omega
        rw [List.length_cons] at r0
        by_cases k3 : t.k = 3
        · have ka : (t.k == 0) = false := by rw [k3]; decide
          have kb : (t.k == 3) = true := by rw [k3]; decide
          rcases Nat.eq_zero_or_pos deep with h0 | h0
          · have hd0 : decide ((0 : Int) < (deep : Int)) = false := by simp; omega
            have hd1 : decide (0 < deep) = false := by simp; omega
            have hq : listF f deep op ts = .err 130 t.l t.c := by rw [HQ.out, listF, if_pos k3, if_pos h0]; rfl
            have HQ2 := hide hq
            have HFL := hide (fail_any p (some ⟨bk, of, none⟩) cap' (t :: ts'') 130 t.l t.c wr HX.out.r)
            clear hq h0 k3 HQ
            go_wp2_with fail
            refine HN.out.mono ?_
            rintro e w2 ⟨rfl, rfl⟩
            go_wp2_with fail
            refine HFL.out.mono ?_
            rintro e w3 ⟨rfl, ho, hr⟩
            have hl3 := HX.out.lo.grow ho (fun b e => by injection e with e; omega)
            have HE := hide (show LE p w w3 (.slice Av F.len cv) F.len xs _ _ _ 130 t.l t.c from ⟨by decide, only_trans HX.out.o ho, hl3.own, hl3.fo.one, by omega, hr⟩)
            clear ho hr hl3
            go_wp2_with fail
            go_roundg 0
            case rel => exact .inr ⟨_, _, _, _, _, _, _, _, HE.out, HQ2.out⟩
            case measure => omega
          · have hd0 : decide ((0 : Int) < (deep : Int)) = true := by simp; omega
            have hd1 : decide (0 < deep) = true := by simp; omega
            have hq : listF f deep op ts = .ok F ts'' := by rw [HQ.out, listF, if_pos k3, if_neg (by omega)]; simp [putF, Fo.app_nil]
            have HQ2 := hide hq
            have HOF := hide (off_any p (some ⟨bk, of, none⟩) cap' t ts'' 0 0 0 wr HX.out.r (by omega) HX.out.r.cm)
            clear hq h0 k3 HQ
            go_wp2_with fail
            refine HN.out.mono ?_
            rintro e w2 ⟨rfl, rfl⟩
            go_wp2_with fail
            refine HOF.out.mono ?_
            rintro e w3 ⟨rfl, ho, A3, hr⟩
            have HO := hide ho
            have HR := hide hr
            clear ho hr
            go_wp2_with fail
            (try simp only [Exit.inBlock, Exit.then])
            go_ret
            rw [HQ2.out]
            exact ⟨only_trans HX.out.o HO.out, _, _, _, _, _, rfl, HX.out.lo.grow HO.out (fun b e => by injection e with e; omega), HR.out⟩
        · by_cases k1 : t.k = 1
          · have ka : (t.k == 0) = false := by rw [k1]; decide
            have kb : (t.k == 3) = false := by rw [k1]; decide
            have kc : (t.k == 1) = true := by rw [k1]; decide
            have HSC := hide (HST.out f1 (by omega) deep (some ⟨bk, of, none⟩) cap' t ts'' wr hd k1 (by omega) (by omega) HX.out.r)
            have HQ2 : Hid (listF f deep op ts = putF F (match stmtF (fun o r => listF f1 (deep + 1) o r) deep t.pos (t :: ts'') with
                | .ok G r => putF G (listF f1 deep op r)
                | .err e l c => .err e l c)) := hide (by
                rw [HQ.out, listF, if_neg k3, if_pos k1]
                cases stmtF (fun o r => listF f1 (deep + 1) o r) deep t.pos (t :: ts'') <;> rfl)
            have HK1 := hide k1
            clear k1 k3 HQ
            go_wp2_with fail
            refine HN.out.mono ?_
            rintro e w2 ⟨rfl, rfl⟩
            clear HN
            go_wp2_with fail
            refine HSC.out.mono ?_
            intro e w3 hh
            obtain ⟨ho, hh⟩ := hh
            have hl3 := HX.out.lo.grow ho (fun b e => by injection e with e; omega)
            cases hs : stmtF (fun o r => listF f1 (deep + 1) o r) deep t.pos (t :: ts'') with
            | ok G r =>
              rw [hs] at hh HQ2
              have hlen2 := stmtF_len HK1.out (fun o ts K q h => listF_rest _ _ _ _ _ _ h) hs
              have hsome := stmtF_some hs
              have hrl := stmtF_rest (fun o ts K q h => listF_rest _ _ _ _ _ _ h) hs
              simp only [List.length_cons] at hlen2 hrl
              obtain ⟨u, A3, cap3, ys, D, rfl, hlo, hr⟩ := hh
              obtain ⟨gu, cu, rfl, hgu, hgu2⟩ := own_some hlo.own hsome
              have HO := hide ho
              have HL3 := hide hl3
              have HLO := hide hlo
              have HR := hide hr
              have hsrc : ∀ j x, ys[j]? = some x → w3.cell? ((⟨gu, 0, none⟩ : Addr).add j) = some x := own_cells hlo.own
              have HSR := hide hsrc
              clear ho hl3 hlo hr hsrc hs HSC
              go_wp2_with (at_builtin; go_must (refine wpList_append_own_at _ rfl (.tmp 50) (.tmp 53) 36 rfl w.heap.size 44 ni _ 4 80 Try.underlying36 nz0 nz ns nb rfl (by decide) _ F.len xs rfl HL3.out.own ⟨gu, 0, none⟩ G.len cu ys rfl HLO.out.fo.len HSR.out HLO.out.fo.one ?c63 ?cby ?cbase ?_))
              case c63 => unfold maxLen; omega
              case cby => omega
              case cbase => have h1 := HX.out.o.size; have h2 := HO.out.size; omega
              intro v' w4 hown hgr _ hk
              have hap := Lo.app HL3.out HLO.out (fun g e => (HX.out.lo.own.lt g e).2) HX.out.o.size hown hgr hk
              have hbx : w4.heap[w.heap.size]? = some (.cells #[.int .i64 op.1, .int .i64 op.2] 24 (0, 0)) := heap_grown (only_heap HO.out HX.out.box (by omega)) hgr (own_ne_row HL3.out.own (only_heap HO.out HX.out.box (by omega)) (by decide))
              have hon : Only p w w4 := by
                have h1 := only_trans HX.out.o HO.out
                refine ⟨hgr.os.trans h1.os, hgr.tape.trans h1.tape, hgr.output.trans h1.output, Nat.le_trans h1.size hgr.size, fun i hi hne => ?_⟩
                rw [hgr.block i (Nat.lt_of_lt_of_le hi h1.size) (fun e => by have := (HL3.out.own.lt i e.symm).1; omega)]
                exact h1.block i hi hne
              have HY := hide (show LL p w w4 op v' (F.app G) (xs ++ ys) _ A3 cap3 r from ⟨hon, hbx, hap, HR.out.only hgr (fun b e => by have := (HL3.out.own.lt b e).1; omega)⟩)
              have hq3 : listF f deep op ts = putF (F.app G) (listF f1 deep op r) := by rw [HQ2.out, putF_put]
              have HQ3 := hide hq3
              obtain ⟨A4, c4, rfl⟩ := own_slice hown
              clear hown hgr hk hap hbx hon hq3 HO HL3 HLO HR HSR
              go_wp2_with fail
              go_roundg (r.length + 1)
              case rel => exact .inl ⟨_, _, _, _, _, r, f1, HY.out, Nat.le_refl _, by omega, by omega, by rw [Fo.len_app]; omega, HQ3.out⟩
              case measure => omega
            | err e2 l2 c2 =>
              rw [hs] at hh HQ2
              obtain ⟨hne, u, A3, cap3, n, ys, ts3, rfl, hown3, hone3, hn3, hr⟩ := hh
              obtain ⟨Au, cu, rfl⟩ := own_slice hown3
              have HO := hide ho
              have HL3 := hide hl3
              have HR := hide hr
              have HS3 := hide (own_src hown3)
              have HON := hide hone3
              have HNE := hide hne
              clear ho hl3 hr hown3 hone3 hne hs HSC
              go_wp2_with (at_builtin; go_must (refine app_src rfl (.tmp 50) (.tmp 53) 36 rfl w.heap.size 44 ni _ 4 80 Try.underlying36 nz0 nz ns nb rfl (by decide) _ F.len xs rfl HL3.out.own Au n cu ys rfl HS3.out HON.out ?c63 ?cby ?cbase ?_))
              case c63 => unfold maxLen; omega
              case cby => omega
              case cbase => have h1 := HX.out.o.size; have h2 := HO.out.size; omega
              intro v' w4 hown hgr
              have hon : Only p w w4 := by
                have h1 := only_trans HX.out.o HO.out
                refine ⟨hgr.os.trans h1.os, hgr.tape.trans h1.tape, hgr.output.trans h1.output, Nat.le_trans h1.size hgr.size, fun i hi hne => ?_⟩
                rw [hgr.block i (Nat.lt_of_lt_of_le hi h1.size) (fun e => by have := (HL3.out.own.lt i e.symm).1; omega)]
                exact h1.block i hi hne
              have HE := hide (show LE p w w4 v' (F.len + n) (xs ++ ys) A3 cap3 ts3 e2 l2 c2 from ⟨HNE.out, hon, hown, fun x hx => by
                rcases List.mem_append.1 hx with h | h
                · exact HL3.out.fo.one x h
                · exact HON.out x h, by omega, HR.out.only hgr (fun b e => by have := (HL3.out.own.lt b e).1; omega)⟩)
              obtain ⟨A4, c4, rfl⟩ := own_slice hown
              clear hown hgr hon HO HL3 HR HS3 HON HNE
              go_wp2_with fail
              go_roundg 0
              case rel => exact .inr ⟨_, _, _, _, _, _, _, _, HE.out, HQ2.out⟩
              case measure => omega
          · have kq : listF f deep op ts = .err 130 t.l t.c := by rw [HQ.out, listF, if_neg k3, if_neg k1]; rfl
            have HQ2 := hide kq
            have k0 := HX.out.r.kz t (by simp)
            have ka : (t.k == 0) = false := by simpa using k0
            have kb : (t.k == 3) = false := by simpa using k3
            have kc : (t.k == 1) = false := by simpa using k1
            have HFL := hide (fail_any p (some ⟨bk, of, none⟩) cap' (t :: ts'') 130 t.l t.c wr HX.out.r)
            clear kq k0 k1 k3 HQ
            go_wp2_with fail
            refine HN.out.mono ?_
            rintro e w2 ⟨rfl, rfl⟩
            go_wp2_with fail
            refine HFL.out.mono ?_
            rintro e w3 ⟨rfl, ho, hr⟩
            have hl3 := HX.out.lo.grow ho (fun b e => by injection e with e; omega)
            have HE := hide (show LE p w w3 (.slice Av F.len cv) F.len xs _ _ _ 130 t.l t.c from ⟨by decide, only_trans HX.out.o ho, hl3.own, hl3.fo.one, by omega, hr⟩)
            clear ho hr hl3
            go_wp2_with fail
            go_roundg 0
            case rel => exact .inr ⟨_, _, _, _, _, _, _, _, HE.out, HQ2.out⟩
            case measure => omega
    · have hr := hX.r.h
      have r1 := cell_heap (j := 1) hr rfl
      have he1 : (e == 0) = false := by simpa using hX.ne
      have HXE := hide hX
      have HEQ := hide heq
      obtain ⟨Av, cv, rfl⟩ := own_slice hX.own
      clear hX heq hr
      go_wp2_with fail
      go_ret
      rw [HEQ.out]
      exact ⟨HXE.out.o, HXE.out.ne, _, _, _, _, _, _, rfl, HXE.out.own, HXE.out.one, HXE.out.n, HXE.out.r⟩
theorem kind_cons {t : BTok} {ts : List BTok} : kindT (t :: ts) = t.k := rfl
end Go.Proofs.Ytihmmmodimionaa.Tr
