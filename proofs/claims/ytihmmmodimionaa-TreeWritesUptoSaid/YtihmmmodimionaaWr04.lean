/- What the claim leans on, part 4 of 16: TD TS TEL. -/
import Derived.Deep.CutBlock
import Derived.Deep.DeepCutAuto
import Derived.Test.YtihmmmodimionaaShelf
import Derived.Test.YtihmmmodimionaaWr01
import Derived.Test.YtihmmmodimionaaWr02
import Derived.Test.YtihmmmodimionaaWr03
/- The reader of statements: list, by what statement does. -/
namespace Go.Proofs.Ytihmmmodimionaa.Tr
open Go.RowKit Go.Proofs.Ytihmmmodimionaa Go.Proofs.Ytihmmmodimionaa.Lx

theorem infoN : (Try.prog.info? 44).map (fun i => (i.zero, i.size, i.bytes)) = some (some (.agg #[.slice none 0 0, .slice none 0 0, .bool false, .slice none 0 0]), 4, 80) := by kernel_rfl
/-- statements in a row of the call's own -/
structure Lo (w wr : World) (v : Value) (F : Fo) (xs : List Value) (B : Nat → Prop) : Prop where
  own : wr.ownsRow w.heap.size 44 4 v F.len xs
  fo : FoV wr B F xs
  hB : ∀ b, B b → w.heap.size ≤ b ∧ b < wr.heap.size ∧ v.ownBlock ≠ some b
theorem lo_start (w : World) : Lo w w (.slice none 0 0) .nil [] (fun _ => False) := ⟨⟨rfl, .inl ⟨rfl, rfl⟩⟩, rfl, fun b h => by cases h⟩
theorem Lo.grow {w wr w' : World} {v : Value} {F : Fo} {xs : List Value} {B : Nat → Prop} (h : Lo w wr v F xs B) {row : Option Nat} (hg : wr.grownBy w' row) (hr : ∀ b, row = some b → b < w.heap.size) : Lo w w' v F xs B := by
  refine ⟨h.own.kept hg ?_, h.fo.keep (fun b hb => hg.block b (h.hB b hb).2.1 (fun e => ?_)), fun b hb => ⟨(h.hB b hb).1, Nat.lt_of_lt_of_le (h.hB b hb).2.1 hg.size, (h.hB b hb).2.2⟩⟩
  · cases hv : v.ownBlock with
    | none => exact .inl rfl
    | some g =>
      refine .inr (fun e => ?_)
      have h1 := hr g e.symm
      have h2 := (h.own.lt g hv).1
      omega
  · have h1 := hr b e.symm
    have h2 := (h.hB b hb).1
    omega
theorem Lo.base {w w0 wr : World} {v : Value} {F : Fo} {xs : List Value} {B : Nat → Prop} (h : Lo w wr v F xs B) (hb : w0.heap.size ≤ w.heap.size) : Lo w0 wr v F xs B :=
  ⟨own_base h.own hb, h.fo, fun b hb' => ⟨Nat.le_trans hb (h.hB b hb').1, (h.hB b hb').2⟩⟩
/-- .. a statement's row behind it -/
theorem Lo.app {w w1 w2 w3 : World} {v u v' : Value} {F G : Fo} {xs ys : List Value} {B D : Nat → Prop} (h : Lo w w2 v F xs B) (k : Lo w1 w2 u G ys D) (hw : ∀ g, v.ownBlock = some g → g < w1.heap.size) (hww : w.heap.size ≤ w1.heap.size) (ho : w3.ownsRow w.heap.size 44 4 v' (F.len + G.len) (xs ++ ys)) (hg : w2.grownBy w3 v.ownBlock) (hk : v'.ownBlock = v.ownBlock ∨ v'.ownBlock = some w2.heap.size) : Lo w w3 v' (F.app G) (xs ++ ys) (fun b => B b ∨ D b) := by
  have hne : ∀ b, B b ∨ D b → v.ownBlock ≠ some b := by
    intro b hb e
    rcases hb with hb | hb
    · exact (h.hB b hb).2.2 e
    · have h1 := hw b e
      have h2 := (k.hB b hb).1
      omega
  have hlt : ∀ b, B b ∨ D b → b < w2.heap.size := by
    intro b hb
    rcases hb with hb | hb
    · exact (h.hB b hb).2.1
    · exact (k.hB b hb).2.1
  refine ⟨by rw [Fo.len_app]; exact ho, FoV.app ((h.fo.keep (fun b hb => ?_)).mono (fun b hb => .inl hb)) ((k.fo.keep (fun b hb => ?_)).mono (fun b hb => .inr hb)), fun b hb => ⟨?_, ?_, ?_⟩⟩
  · exact hg.block b (hlt b (.inl hb)) (fun e => hne b (.inl hb) e.symm)
  · exact hg.block b (hlt b (.inr hb)) (fun e => hne b (.inr hb) e.symm)
  · rcases hb with hb | hb
    · exact (h.hB b hb).1
    · have := (k.hB b hb).1; omega
  · exact Nat.lt_of_lt_of_le (hlt b hb) hg.size
  · rcases hk with e | e
    · rw [e]; exact hne b hb
    · rw [e]
      intro e'
      injection e' with e'
      have := hlt b hb
      omega
/-- rows of the call's own, all the way down: whose blocks lie in B -/
def FoS (w : World) (B : Nat → Prop) : Fo → List Value → Prop
  | .nil, xs => xs = []
  | .cons ws ps _ K R, xs => ∃ vw vp b vk ys xs' zw zp, xs = vw :: vp :: b :: vk :: xs' ∧ (w.ownsRow 0 9 1 vw ws.length zw ∧ ∀ g, vw.ownBlock = some g → B g) ∧ (w.ownsRow 0 24 2 vp ps.length zp ∧ ∀ g, vp.ownBlock = some g → B g) ∧ (w.ownsRow 0 44 4 vk K.len ys ∧ ∀ g, vk.ownBlock = some g → B g) ∧ FoS w B K ys ∧ FoS w B R xs'
theorem own_heap {w w' : World} {base size n : Nat} {e : TypeId} {v : Value} {xs : List Value} (h : w.ownsRow base e size v n xs) (hb : ∀ g, v.ownBlock = some g → w'.heap[g]? = w.heap[g]?) : w'.ownsRow base e size v n xs := by
  refine ⟨h.1, ?_⟩
  rcases h.2 with hn | ⟨g, cap, cur, rfl, h1, hg, rest⟩
  · exact .inl hn
  · exact .inr ⟨g, cap, cur, rfl, h1, (hb g rfl).trans hg, rest⟩
theorem FoS.keep {w w' : World} {B : Nat → Prop} : ∀ {F : Fo} {xs : List Value}, FoS w B F xs → (∀ b, B b → w'.heap[b]? = w.heap[b]?) → FoS w' B F xs
  | .nil, _, h, _ => h
  | .cons ws ps _ K R, xs, h, hb => by
    obtain ⟨vw, vp, b, vk, ys, xs', zw, zp, e, h1, h2, h3, h4, h5⟩ := h
    exact ⟨vw, vp, b, vk, ys, xs', zw, zp, e, ⟨own_heap h1.1 (fun g hg => hb g (h1.2 g hg)), h1.2⟩, ⟨own_heap h2.1 (fun g hg => hb g (h2.2 g hg)), h2.2⟩, ⟨own_heap h3.1 (fun g hg => hb g (h3.2 g hg)), h3.2⟩, FoS.keep h4 hb, FoS.keep h5 hb⟩
theorem FoS.mono {w : World} {B B' : Nat → Prop} : ∀ {F : Fo} {xs : List Value}, FoS w B F xs → (∀ b, B b → B' b) → FoS w B' F xs
  | .nil, _, h, _ => h
  | .cons ws ps _ K R, xs, h, hb => by
    obtain ⟨vw, vp, b, vk, ys, xs', zw, zp, e, h1, h2, h3, h4, h5⟩ := h
    exact ⟨vw, vp, b, vk, ys, xs', zw, zp, e, ⟨h1.1, fun g hg => hb g (h1.2 g hg)⟩, ⟨h2.1, fun g hg => hb g (h2.2 g hg)⟩, ⟨h3.1, fun g hg => hb g (h3.2 g hg)⟩, FoS.mono h4 hb, FoS.mono h5 hb⟩
theorem FoS.app {w : World} {B : Nat → Prop} : ∀ {F G : Fo} {xs ys : List Value}, FoS w B F xs → FoS w B G ys → FoS w B (F.app G) (xs ++ ys)
  | .nil, _, _, _, h, h' => by rw [show _ = [] from h]; exact h'
  | .cons ws ps _ K R, G, xs, ys, h, h' => by
    obtain ⟨vw, vp, b, vk, zs, xs', zw, zp, e, h1, h2, h3, h4, h5⟩ := h
    exact ⟨vw, vp, b, vk, zs, xs' ++ ys, zw, zp, by rw [e]; rfl, h1, h2, h3, h4, FoS.app h5 h'⟩
/-- statements in a row of the call's own, and so all that they hold -/
structure LoS (w wr : World) (v : Value) (F : Fo) (xs : List Value) (B : Nat → Prop) : Prop extends Lo w wr v F xs B where
  fs : FoS wr B F xs
theorem los_nil (w wr : World) : LoS w wr (.slice none 0 0) .nil [] (fun _ => False) := ⟨⟨⟨rfl, .inl ⟨rfl, rfl⟩⟩, rfl, fun b h => by cases h⟩, rfl⟩
theorem LoS.grow {w wr w' : World} {v : Value} {F : Fo} {xs : List Value} {B : Nat → Prop} (h : LoS w wr v F xs B) {row : Option Nat} (hg : wr.grownBy w' row) (hr : ∀ b, row = some b → b < w.heap.size) : LoS w w' v F xs B :=
  ⟨h.toLo.grow hg hr, h.fs.keep (fun b hb => hg.block b (h.hB b hb).2.1 (fun e => by have h1 := hr b e.symm; have h2 := (h.hB b hb).1; omega))⟩
theorem LoS.base {w w0 wr : World} {v : Value} {F : Fo} {xs : List Value} {B : Nat → Prop} (h : LoS w wr v F xs B) (hb : w0.heap.size ≤ w.heap.size) : LoS w0 wr v F xs B := ⟨h.toLo.base hb, h.fs⟩
theorem LoS.app {w w1 w2 w3 : World} {v u v' : Value} {F G : Fo} {xs ys : List Value} {B D : Nat → Prop} (h : LoS w w2 v F xs B) (k : LoS w1 w2 u G ys D) (hw : ∀ g, v.ownBlock = some g → g < w1.heap.size) (hww : w.heap.size ≤ w1.heap.size) (ho : w3.ownsRow w.heap.size 44 4 v' (F.len + G.len) (xs ++ ys)) (hg : w2.grownBy w3 v.ownBlock) (hk : v'.ownBlock = v.ownBlock ∨ v'.ownBlock = some w2.heap.size) : LoS w w3 v' (F.app G) (xs ++ ys) (fun b => B b ∨ D b) := by
  refine ⟨Lo.app h.toLo k.toLo hw hww ho hg hk, FoS.app ((h.fs.keep (fun b hb => hg.block b (h.hB b hb).2.1 (fun e => (h.hB b hb).2.2 e.symm))).mono (fun b hb => .inl hb)) ((k.fs.keep (fun b hb => hg.block b (k.hB b hb).2.1 (fun e => ?_))).mono (fun b hb => .inr hb))⟩
  have h1 := hw b e.symm
  have h2 := (k.hB b hb).1
  omega
/-- what list and statement hand back -/
def ListOut (N p : Nat) (w : World) (r : PR) (e' : Ending) (w' : World) : Prop :=
  Only p w w' ∧ match r with
  | .ok F rest => ∃ v A cap xs B, e' = .returned v ∧ LoS w w' v F xs B ∧ RdX w' p A cap rest 0 0 0
  | .err e l c => e ≠ 0 ∧ ∃ v A cap n xs ts, e' = .returned v ∧ w'.ownsRow w.heap.size 44 4 v n xs ∧ (∀ u ∈ xs, u.oneCell' = true) ∧ n ≤ N ∧ RdX w' p A cap ts e l c
theorem tailS_len {rec : Pl → List BTok → PR} {deep : Nat} {first : Pl} {n : List BTok} {all : Fo} {toks : List BTok} {F : Fo} {r : List BTok} (hr : ∀ o ts K q, rec o ts = .ok K q → q.length ≤ ts.length) (h : tailS rec deep first n all toks = .ok F r) : F.len + r.length ≤ max 1 all.len + toks.length - 1 := by
  cases toks with
  | nil => cases h
  | cons t ts =>
    rw [tailS] at h
    by_cases k4 : t.k = 4
    · rw [if_pos k4] at h
      injection h with h1 h2
      rw [← h1, ← h2]
      by_cases h0 : all.len = 0
      · rw [if_pos h0]; simp [Fo.len]; omega
      · rw [if_neg h0]; simp; omega
    · rw [if_neg k4] at h
      by_cases k2 : t.k = 2 ∧ all.len = 0
      · rw [if_pos k2] at h
        by_cases hd : deep = 32
        · rw [if_pos hd] at h; cases h
        · rw [if_neg hd] at h
          cases e : rec t.pos ts with
          | err e' l c => rw [e] at h; cases h
          | ok K q =>
            rw [e] at h
            injection h with h1 h2
            have := hr _ _ _ _ e
            rw [← h1, ← h2]
            simp [Fo.len]; omega
      · rw [if_neg k2] at h; cases h
theorem stmtF_len {rec : Pl → List BTok → PR} {deep : Nat} {first : Pl} {t : BTok} {ts : List BTok} {F : Fo} {r : List BTok} (hk : t.k = 1) (hr : ∀ o ts K q, rec o ts = .ok K q → q.length ≤ ts.length) (h : stmtF rec deep first (t :: ts) = .ok F r) : F.len + r.length ≤ (t :: ts).length := by
  have hb := congrArg List.length (words_behind (t :: ts))
  rw [wordsT, if_pos hk] at hb
  simp only [List.length_append, List.length_cons] at hb
  unfold stmtF at h
  split at h
  · cases h
  · rename_i x xs e
    rw [e] at hb
    simp only [List.length_cons] at hb
    split at h
    · have hb2 := congrArg List.length (words_behind xs)
      split at h
      · cases h
      · rename_i u us e2
        rw [e2] at hb2
        simp only [List.length_append, List.length_cons] at hb2
        split at h
        · have := tailS_len hr h
          rw [leafs_len] at this
          simp
          omega
        · cases h
    · have := tailS_len hr h
      simp [Fo.len] at this ⊢
      omega
theorem tailS_some {rec : Pl → List BTok → PR} {deep : Nat} {first : Pl} {n : List BTok} {all : Fo} {toks : List BTok} {F : Fo} {r : List BTok} (h : tailS rec deep first n all toks = .ok F r) : 1 ≤ F.len := by
  cases toks with
  | nil => cases h
  | cons t ts =>
    rw [tailS] at h
    by_cases k4 : t.k = 4
    · rw [if_pos k4] at h
      injection h with h1 h2
      rw [← h1]
      by_cases h0 : all.len = 0
      · rw [if_pos h0]; simp [Fo.len]
      · rw [if_neg h0]; omega
    · rw [if_neg k4] at h
      by_cases k2 : t.k = 2 ∧ all.len = 0
      · rw [if_pos k2] at h
        by_cases hd : deep = 32
        · rw [if_pos hd] at h; cases h
        · rw [if_neg hd] at h
          cases e : rec t.pos ts with
          | err e' l c => rw [e] at h; cases h
          | ok K q =>
            rw [e] at h
            injection h with h1 h2
            rw [← h1]
            simp [Fo.len]
      · rw [if_neg k2] at h; cases h
theorem stmtF_some {rec : Pl → List BTok → PR} {deep : Nat} {first : Pl} {toks : List BTok} {F : Fo} {r : List BTok} (h : stmtF rec deep first toks = .ok F r) : 1 ≤ F.len := by
  unfold stmtF at h
  split at h
  · cases h
  · split at h
    · split at h
      · cases h
      · split at h
        · exact tailS_some h
        · cases h
    · exact tailS_some h
/-- list, in its loop: all is well so far -/
structure LL (p : Nat) (w wr : World) (op : Pl) (v : Value) (F : Fo) (xs : List Value) (B : Nat → Prop) (A : Option Addr) (cap : Nat) (ts : List BTok) : Prop where
  o : Only p w wr
  box : wr.heap[w.heap.size]? = some (.cells #[.int .i64 op.1, .int .i64 op.2] 24 (0, 0))
  lo : LoS w wr v F xs B
  r : RdX wr p A cap ts 0 0 0
/-- .. or the first error has been met -/
structure LE (p : Nat) (w wr : World) (v : Value) (n : Nat) (xs : List Value) (A : Option Addr) (cap : Nat) (ts : List BTok) (e l c : Int) : Prop where
  ne : e ≠ 0
  o : Only p w wr
  own : wr.ownsRow w.heap.size 44 4 v n xs
  one : ∀ u ∈ xs, u.oneCell' = true
  n : n ≤ 200000
  r : RdX wr p A cap ts e l c
theorem own_some {w : World} {base n : Nat} {e : TypeId} {v : Value} {xs : List Value} {size : Nat} (h : w.ownsRow base e size v n xs) (hn : 1 ≤ n) : ∃ g c, v = .slice (some ⟨g, 0, none⟩) n c ∧ base ≤ g ∧ g < w.heap.size := by
  have hl := h.lt
  rcases h.2 with ⟨h1, h2⟩ | ⟨g, cap, cur, h1, h2⟩
  · omega
  · subst h1
    exact ⟨g, cap, rfl, hl g rfl⟩
theorem own_cells {w : World} {base n g c : Nat} {e : TypeId} {xs : List Value} {size : Nat} (h : w.ownsRow base e size (.slice (some ⟨g, 0, none⟩) n c) n xs) : ∀ j x, xs[j]? = some x → w.cell? ((⟨g, 0, none⟩ : Addr).add j) = some x := by
  intro j x hj
  rcases h.2 with ⟨h1, _⟩ | ⟨g', cap, cur, h1, _, h3, _, _, _, h5⟩
  · cases h1
  · injection h1 with h1
    injection h1 with h1
    injection h1 with h1
    subst h1
    rw [show (⟨g, 0, none⟩ : Addr).add j = ⟨g, j, none⟩ by simp [Addr.add, eq_comm]]
    refine cell_heap h3 ?_
    have hl : j < n * size := by
      have := (List.getElem?_eq_some_iff.1 hj).1
      rw [h.1] at this
      exact this
    rw [← h5, List.getElem?_take_of_lt hl] at hj
    simpa using hj
theorem own_src {w : World} {base n c : Nat} {A : Option Addr} {e : TypeId} {xs : List Value} {size : Nat} (h : w.ownsRow base e size (.slice A n c) n xs) : Src w A n c size xs := by
  refine ⟨h.1, ?_⟩
  rcases h.2 with ⟨h1, h2⟩ | ⟨g', cap, cur, h1, _⟩
  · cases h1
    exact .inl ⟨rfl, rfl, rfl⟩
  · cases h1
    exact .inr ⟨_, rfl, own_cells h⟩
theorem own_caps {w : World} {base size n c : Nat} {A : Option Addr} {e : TypeId} {xs : List Value} (h : w.ownsRow base e size (.slice A n c) n xs) : n ≤ c ∧ c ≤ maxLen ∧ ∀ a, A = some a → a.block < w.heap.size := by
  have hl := h.lt
  rcases h.2 with ⟨h1, h2⟩ | ⟨g, cap, cur, h1, _, _, h4, h5, _⟩
  · cases h1
    exact ⟨Nat.le_refl _, Nat.zero_le _, fun a e => by cases e⟩
  · cases h1
    exact ⟨h4, h5, fun a e => by cases e; exact (hl g rfl).2⟩
/-- what statement is to do -/
def StmtOK (p g : Nat) : Prop := ∀ (deep : Nat) (A : Option Addr) (cap : Nat) (t : BTok) (ts : List BTok) (w : World), deep ≤ 32 → t.k = 1 → ts.length + 1 ≤ 100000 → ts.length < g → RdX w p A cap (t :: ts) 0 0 0 →
  Calls Try.prog 63 #[.pointer (some ⟨p, 0, none⟩), .int .i64 deep] w (ListOut 1 p w (stmtF (fun o r => listF g (deep + 1) o r) deep t.pos (t :: ts)))
set_option maxHeartbeats 8000000 in
set_option maxRecDepth 100000 in
theorem list_walk (p f : Nat) (HST : Hid (∀ g, g < f → StmtOK p g)) (deep : Nat) (op : Pl) (A : Option Addr) (cap : Nat) (ts : List BTok) (w : World) (h : RdX w p A cap ts 0 0 0) (hd : deep ≤ 32) (hf : ts.length < f) (hl : ts.length ≤ 100000) :
    Calls Try.prog 35 #[.pointer (some ⟨p, 0, none⟩), .int .i64 deep, .agg #[.int .i64 op.1, .int .i64 op.2]] w (ListOut 200000 p w (listF f deep op ts)) := by
  have hp := lt_heap h.h
  obtain ⟨ni, nz0, nz, ns, nb⟩ := info_parts infoN
  have HS0 := hide (show LL p w (w.alloc (.cells #[.int .i64 op.1, .int .i64 op.2] 24)) op (.slice none 0 0) .nil [] (fun _ => False) A cap ts from ⟨only_alloc (only_refl p w) _, heap_new w _, (los_nil w w).grow (World.grownBy_alloc w _ none) (fun b e => by cases e), h.below (bel_one w _)⟩)
  clear h
  go_enter Try.func35, Try.ntmps35
  go_wp2_with fail
  go_loopg [7] (ts.length + 1) (fun g v wr => (∃ (F : Fo) (xs : List Value) (B : Nat → Prop) (A' : Option Addr) (cap' : Nat) (ts' : List BTok) (f' : Nat), LL p w wr op v F xs B A' cap' ts' ∧ ts'.length + 1 ≤ g ∧ ts'.length < f' ∧ f' ≤ f ∧ F.len + ts'.length ≤ 100000 ∧ listF f deep op ts = putF F (listF f' deep op ts')) ∨ (∃ (n : Nat) (xs : List Value) (A' : Option Addr) (cap' : Nat) (ts' : List BTok) (e l c : Int), LE p w wr v n xs A' cap' ts' e l c ∧ listF f deep op ts = .err e l c))
  case atStart => exact .inl ⟨.nil, [], _, A, cap, ts, f, HS0.out, Nat.le_refl _, hf, Nat.le_refl _, by simpa [Fo.len] using hl, (putF_nil _).symm⟩
  case round =>
    clear HS0
    rcases hrel with ⟨F, xs, B, A', cap', ts', f', hX, hg, hf', hff, hlen, heq⟩ | ⟨n, xs, A', cap', ts', e, l, c, hX, heq⟩
    · obtain ⟨Av, cv, rfl⟩ := own_slice hX.lo.own
      obtain ⟨f1, rfl⟩ : ∃ f1, f' = f1 + 1 := ⟨f' - 1, by omega⟩
      have r1 := cell_heap (j := 1) hX.r.h rfl
      have r0 := cell_heap (j := 0) hX.r.h rfl
      have b0 := cell_heap (j := 0) hX.box rfl
      have b1 := cell_heap (j := 1) hX.box rfl
      have hFl : F.len ≤ 100000 := by omega
      have HN := hide (next_any p A' cap' ts' 0 0 0 wr hX.r (by omega))
      have HX := hide hX
      have HQ := hide heq
      clear hX heq
      cases ts' with
      | nil =>
        rw [show kindT [] = 0 from rfl] at HN
        have hq : listF f deep op ts = if deep = 0 then .ok F [] else .err 71 op.1 op.2 := by
          rw [HQ.out, listF]
          split <;> simp [putF, Fo.app_nil]
        have HQ2 := hide hq
        clear hq
        rcases Nat.eq_zero_or_pos deep with h0 | h0
        · have hd0 : decide ((0 : Int) < (deep : Int)) = false := by simp; omega
          have hd1 : decide (0 < deep) = false := by simp; omega
          have HZ := hide h0
          clear h0
          go_wp2_with fail
          refine HN.out.mono ?_
          rintro e w2 ⟨rfl, rfl⟩
          go_wp2_with fail
          (try simp only [Exit.inBlock, Exit.then])
          go_ret
          rw [HQ2.out, if_pos HZ.out]
          exact ⟨HX.out.o, _, _, _, _, _, rfl, HX.out.lo, HX.out.r⟩
        · have hd0 : decide ((0 : Int) < (deep : Int)) = true := by simp; omega
          have hd1 : decide (0 < deep) = true := by simp; omega
          have HZ := hide h0
          clear h0
          have HFL := hide (fail_any p A' cap' [] 71 op.1 op.2 wr HX.out.r)
          go_wp2_with fail
          refine HN.out.mono ?_
          rintro e w2 ⟨rfl, rfl⟩
          go_wp2_with fail
          refine HFL.out.mono ?_
          rintro e w3 ⟨rfl, ho, hr⟩
          have HO := hide ho
          have HR := hide hr
          clear ho hr
          go_wp2_with fail
          (try simp only [Exit.inBlock, Exit.then])
          go_ret
          rw [HQ2.out, if_neg (by have := HZ.out; omega)]
          have hl3 := HX.out.lo.grow HO.out (fun b e => by injection e with e; omega)
          exact ⟨only_trans HX.out.o HO.out, by decide, _, _, _, _, _, _, rfl, hl3.own, hl3.fo.one, by omega, HR.out⟩
      | cons t ts'' =>
        rw [show kindT (t :: ts'') = t.k from rfl] at HN
        simp only [List.length_cons] at hg hf' hlen
        obtain ⟨ad, rfl, q0, q1, q2, q3⟩ := HX.out.r.t.head
        have hsp : ad.spot = none := World.cell?_spot q0
        obtain ⟨bk, of, sp⟩ := ad
        cases hsp
        have d0 : ((0 : Int) < ((ts''.length + 1 : Nat) : Int)) := by omega
        have d2 : ((0 : Int) < (ts''.length : Int) + 1) := by omega
        rw [List.length_cons] at r0
        by_cases k3 : t.k = 3
        · have ka : (t.k == 0) = false := by rw [k3]; decide
          have kb : (t.k == 3) = true := by rw [k3]; decide
          rcases Nat.eq_zero_or_pos deep with h0 | h0
          · have hd0 : decide ((0 : Int) < (deep : Int)) = false := by simp; omega
            have hd1 : decide (0 < deep) = false := by simp; omega
            have hq : listF f deep op ts = .err 130 t.l t.c := by rw [HQ.out, listF, if_pos k3, if_pos h0]; rfl
            have HQ2 := hide hq
            have HFL := hide (fail_any p (some ⟨bk, of, none⟩) cap' (t :: ts'') 130 t.l t.c wr HX.out.r)
            clear hq h0 k3 HQ
            go_wp2_with fail
            refine HN.out.mono ?_
            rintro e w2 ⟨rfl, rfl⟩
            go_wp2_with fail
            refine HFL.out.mono ?_
            rintro e w3 ⟨rfl, ho, hr⟩
            have hl3 := HX.out.lo.grow ho (fun b e => by injection e with e; omega)
            have HE := hide (show LE p w w3 (.slice Av F.len cv) F.len xs _ _ _ 130 t.l t.c from ⟨by decide, only_trans HX.out.o ho, hl3.own, hl3.fo.one, by omega, hr⟩)
            clear ho hr hl3
            go_wp2_with fail
            go_roundg 0
            case rel => exact .inr ⟨_, _, _, _, _, _, _, _, HE.out, HQ2.out⟩
            case measure => omega
          · have hd0 : decide ((0 : Int) < (deep : Int)) = true := by simp; omega
            have hd1 : decide (0 < deep) = true := by simp; omega
            have hq : listF f deep op ts = .ok F ts'' := by rw [HQ.out, listF, if_pos k3, if_neg (by omega)]; simp [putF, Fo.app_nil]
            have HQ2 := hide hq
            have HOF := hide (off_any p (some ⟨bk, of, none⟩) cap' t ts'' 0 0 0 wr HX.out.r (by omega) HX.out.r.cm)
            clear hq h0 k3 HQ
            go_wp2_with fail
            refine HN.out.mono ?_
            rintro e w2 ⟨rfl, rfl⟩
            go_wp2_with fail
            refine HOF.out.mono ?_
            rintro e w3 ⟨rfl, ho, A3, hr⟩
            have HO := hide ho
            have HR := hide hr
            clear ho hr
            go_wp2_with fail
            (try simp only [Exit.inBlock, Exit.then])
            go_ret
            rw [HQ2.out]
            exact ⟨only_trans HX.out.o HO.out, _, _, _, _, _, rfl, HX.out.lo.grow HO.out (fun b e => by injection e with e; omega), HR.out⟩
        · by_cases k1 : t.k = 1
          · have ka : (t.k == 0) = false := by rw [k1]; decide
            have kb : (t.k == 3) = false := by rw [k1]; decide
            have kc : (t.k == 1) = true := by rw [k1]; decide
            have HSC := hide (HST.out f1 (by omega) deep (some ⟨bk, of, none⟩) cap' t ts'' wr hd k1 (by omega) (by omega) HX.out.r)
            have HQ2 : Hid (listF f deep op ts = putF F (match stmtF (fun o r => listF f1 (deep + 1) o r) deep t.pos (t :: ts'') with
                | .ok G r => putF G (listF f1 deep op r)
                | .err e l c => .err e l c)) := hide (by
                rw [HQ.out, listF, if_neg k3, if_pos k1]
                cases stmtF (fun o r => listF f1 (deep + 1) o r) deep t.pos (t :: ts'') <;> rfl)
            have HK1 := hide k1
            clear k1 k3 HQ
            go_wp2_with fail
            refine HN.out.mono ?_
            rintro e w2 ⟨rfl, rfl⟩
            clear HN
            go_wp2_with fail
            refine HSC.out.mono ?_
            intro e w3 hh
            obtain ⟨ho, hh⟩ := hh
            have hl3 := HX.out.lo.grow ho (fun b e => by injection e with e; omega)
            cases hs : stmtF (fun o r => listF f1 (deep + 1) o r) deep t.pos (t :: ts'') with
            | ok G r =>
              rw [hs] at hh HQ2
              have hlen2 := stmtF_len HK1.out (fun o ts K q h => listF_rest _ _ _ _ _ _ h) hs
              have hsome := stmtF_some hs
              have hrl := stmtF_rest (fun o ts K q h => listF_rest _ _ _ _ _ _ h) hs
              simp only [List.length_cons] at hlen2 hrl
              obtain ⟨u, A3, cap3, ys, D, rfl, hlo, hr⟩ := hh
              obtain ⟨gu, cu, rfl, hgu, hgu2⟩ := own_some hlo.own hsome
              have HO := hide ho
              have HL3 := hide hl3
              have HLO := hide hlo
              have HR := hide hr
              have hsrc : ∀ j x, ys[j]? = some x → w3.cell? ((⟨gu, 0, none⟩ : Addr).add j) = some x := own_cells hlo.own
              have HSR := hide hsrc
              clear ho hl3 hlo hr hsrc hs HSC
              go_wp2_with (at_builtin; go_must (refine wpList_append_own_at _ rfl (.tmp 50) (.tmp 53) 36 rfl w.heap.size 44 ni _ 4 80 Try.underlying36 nz0 nz ns nb rfl (by decide) _ F.len xs rfl HL3.out.own ⟨gu, 0, none⟩ G.len cu ys rfl HLO.out.fo.len HSR.out HLO.out.fo.one ?c63 ?cby ?cbase ?_))
              case c63 => unfold maxLen; omega
              case cby => omega
              case cbase => have h1 := HX.out.o.size; have h2 := HO.out.size; omega
              intro v' w4 hown hgr _ hk
              have hap := LoS.app HL3.out HLO.out (fun g e => (HX.out.lo.own.lt g e).2) HX.out.o.size hown hgr hk
              have hbx : w4.heap[w.heap.size]? = some (.cells #[.int .i64 op.1, .int .i64 op.2] 24 (0, 0)) := heap_grown (only_heap HO.out HX.out.box (by omega)) hgr (own_ne_row HL3.out.own (only_heap HO.out HX.out.box (by omega)) (by decide))
              have hon : Only p w w4 := by
                have h1 := only_trans HX.out.o HO.out
                refine ⟨hgr.os.trans h1.os, hgr.tape.trans h1.tape, hgr.output.trans h1.output, Nat.le_trans h1.size hgr.size, fun i hi hne => ?_⟩
                rw [hgr.block i (Nat.lt_of_lt_of_le hi h1.size) (fun e => by have := (HL3.out.own.lt i e.symm).1; omega)]
                exact h1.block i hi hne
              have HY := hide (show LL p w w4 op v' (F.app G) (xs ++ ys) _ A3 cap3 r from ⟨hon, hbx, hap, HR.out.only hgr (fun b e => by have := (HL3.out.own.lt b e).1; omega)⟩)
              have hq3 : listF f deep op ts = putF (F.app G) (listF f1 deep op r) := by rw [HQ2.out, putF_put]
              have HQ3 := hide hq3
              obtain ⟨A4, c4, rfl⟩ := own_slice hown
              clear hown hgr hk hap hbx hon hq3 HO HL3 HLO HR HSR
              go_wp2_with fail
              go_roundg (r.length + 1)
              case rel => exact .inl ⟨_, _, _, _, _, r, f1, HY.out, Nat.le_refl _, by omega, by omega, by rw [Fo.len_app]; omega, HQ3.out⟩
              case measure => omega
            | err e2 l2 c2 =>
              rw [hs] at hh HQ2
              obtain ⟨hne, u, A3, cap3, n, ys, ts3, rfl, hown3, hone3, hn3, hr⟩ := hh
              obtain ⟨Au, cu, rfl⟩ := own_slice hown3
              have HO := hide ho
              have HL3 := hide hl3
              have HR := hide hr
              have HS3 := hide (own_src hown3)
              have HON := hide hone3
              have HNE := hide hne
              clear ho hl3 hr hown3 hone3 hne hs HSC
              go_wp2_with (at_builtin; go_must (refine app_src rfl (.tmp 50) (.tmp 53) 36 rfl w.heap.size 44 ni _ 4 80 Try.underlying36 nz0 nz ns nb rfl (by decide) _ F.len xs rfl HL3.out.own Au n cu ys rfl HS3.out HON.out ?c63 ?cby ?cbase ?_))
              case c63 => unfold maxLen; omega
              case cby => omega
              case cbase => have h1 := HX.out.o.size; have h2 := HO.out.size; omega
              intro v' w4 hown hgr
              have hon : Only p w w4 := by
                have h1 := only_trans HX.out.o HO.out
                refine ⟨hgr.os.trans h1.os, hgr.tape.trans h1.tape, hgr.output.trans h1.output, Nat.le_trans h1.size hgr.size, fun i hi hne => ?_⟩
                rw [hgr.block i (Nat.lt_of_lt_of_le hi h1.size) (fun e => by have := (HL3.out.own.lt i e.symm).1; omega)]
                exact h1.block i hi hne
              have HE := hide (show LE p w w4 v' (F.len + n) (xs ++ ys) A3 cap3 ts3 e2 l2 c2 from ⟨HNE.out, hon, hown, fun x hx => by
                rcases List.mem_append.1 hx with h | h
                · exact HL3.out.fo.one x h
                · exact HON.out x h, by omega, HR.out.only hgr (fun b e => by have := (HL3.out.own.lt b e).1; omega)⟩)
              obtain ⟨A4, c4, rfl⟩ := own_slice hown
              clear hown hgr hon HO HL3 HR HS3 HON HNE
              go_wp2_with fail
              go_roundg 0
              case rel => exact .inr ⟨_, _, _, _, _, _, _, _, HE.out, HQ2.out⟩
              case measure => omega
          · have kq : listF f deep op ts = .err 130 t.l t.c := by rw [HQ.out, listF, if_neg k3, if_neg k1]; rfl
            have HQ2 := hide kq
            have k0 := HX.out.r.kz t (by simp)
            have ka : (t.k == 0) = false := by simpa using k0
            have kb : (t.k == 3) = false := by simpa using k3
            have kc : (t.k == 1) = false := by simpa using k1
            have HFL := hide (fail_any p (some ⟨bk, of, none⟩) cap' (t :: ts'') 130 t.l t.c wr HX.out.r)
            clear kq k0 k1 k3 HQ
            go_wp2_with fail
            refine HN.out.mono ?_
            rintro e w2 ⟨rfl, rfl⟩
            go_wp2_with fail
            refine HFL.out.mono ?_
            rintro e w3 ⟨rfl, ho, hr⟩
            have hl3 := HX.out.lo.grow ho (fun b e => by injection e with e; omega)
            have HE := hide (show LE p w w3 (.slice Av F.len cv) F.len xs _ _ _ 130 t.l t.c from ⟨by decide, only_trans HX.out.o ho, hl3.own, hl3.fo.one, by omega, hr⟩)
            clear ho hr hl3
            go_wp2_with fail
            go_roundg 0
            case rel => exact .inr ⟨_, _, _, _, _, _, _, _, HE.out, HQ2.out⟩
            case measure => omega
    · have hr := hX.r.h
      have r1 := cell_heap (j := 1) hr rfl
      have he1 : (e == 0) = false := by simpa using hX.ne
      have HXE := hide hX
      have HEQ := hide heq
      obtain ⟨Av, cv, rfl⟩ := own_slice hX.own
      clear hX heq hr
      go_wp2_with fail
      go_ret
      rw [HEQ.out]
      exact ⟨HXE.out.o, HXE.out.ne, _, _, _, _, _, _, rfl, HXE.out.own, HXE.out.one, HXE.out.n, HXE.out.r⟩
theorem kind_cons {t : BTok} {ts : List BTok} : kindT (t :: ts) = t.k := rfl
end Go.Proofs.Ytihmmmodimionaa.Tr
/- slices.Clone at []api.Pos (the Shelf's theorem, laid by hand). -/
namespace Go.Proofs
open Go.Shelf
def Try.laysClonePos_ren : Go.Shelf.Ren := ⟨fun | 41 => 69 | n => n, fun | 22 => 42 | 23 => 24 | 4 => 4 | n => n, fun | n => n⟩
theorem Try.laysClonePos : Go.Proofs.SlLaysE0.n41 Try.prog Try.laysClonePos_ren := {
  mixed := by kernel_rfl
  f41 := ⟨Try.f69.name, by decide, Try.func69.trans (congrArg some (by kernel_rfl))⟩
  t4 := Try.underlying4
  a4 := Try.isAgg4
  z4 := Try.sizeOf4
  v4 := Try.zeroValue4
  t22 := Try.underlying42
  a22 := Try.isAgg42
  z22 := Try.sizeOf42
  v22 := Try.zeroValue42 }
end Go.Proofs
/- The reader of statements: words on what statement does. -/
namespace Go.Proofs.Ytihmmmodimionaa.Tr
open Go.RowKit Go.Proofs.Ytihmmmodimionaa Go.Proofs.Ytihmmmodimionaa.Lx

/-- statement, ahead of its switch: the first place, the words, the leaves -/
structure SB (p : Nat) (w wr : World) (b5 b6 : Nat) (first : Pl) (n : List BTok) (vw vp va : Value) (all : Fo) (xs : List Value) (B : Nat → Prop) (A : Option Addr) (cap : Nat) (ts : List BTok) : Prop where
  o : Only p w wr
  h5 : w.heap.size ≤ b5
  h6 : w.heap.size ≤ b6
  f5 : wr.heap[b5]? = some (.cells #[.int .i64 first.1, .int .i64 first.2] 24 (0, 0))
  n6 : wr.heap[b6]? = some (.cells #[vw, vp, .bool false, .slice none 0 0] 44 (0, 0))
  ow : wr.ownsRow w.heap.size 9 1 vw n.length (n.map fun (t : BTok) => Value.string t.b)
  op : wr.ownsRow w.heap.size 24 2 vp n.length (posC (n.map BTok.pos))
  al : LoS w wr va all xs B
  r : RdX wr p A cap ts 0 0 0
/-- .. and the words between the signs -/
structure SI (p : Nat) (w wr : World) (b5 b6 b8 : Nat) (first : Pl) (n m : List BTok) (vw vp iw ip va : Value) (all : Fo) (xs : List Value) (B : Nat → Prop) (A : Option Addr) (cap : Nat) (ts : List BTok) : Prop where
  s : SB p w wr b5 b6 first n vw vp va all xs B A cap ts
  n8 : wr.heap[b8]? = some (.cells #[iw, ip, .bool false, .slice none 0 0] 44 (0, 0))
  iw : wr.ownsRow w.heap.size 9 1 iw m.length (m.map fun (t : BTok) => Value.string t.b)
  ip : wr.ownsRow w.heap.size 24 2 ip m.length (posC (m.map BTok.pos))
theorem own_lt {w : World} {base n size : Nat} {e : TypeId} {v : Value} {xs : List Value} (h : w.ownsRow base e size v n xs) {b : Nat} (hb : v.ownBlock = some b) : base ≤ b ∧ b < w.heap.size := h.lt b hb
/-- a statement of its own, laid in a new row -/
theorem lo_node {w x : World} {n : List BTok} {Aw Ap A : Option Addr} {cw cp c : Nat} {K : Fo} {ys : List Value} {D : Nat → Prop} (b : Bool) (hx : w.heap.size ≤ x.heap.size) (how : x.ownsRow w.heap.size 9 1 (.slice Aw n.length cw) n.length (n.map fun (t : BTok) => Value.string t.b)) (hop : x.ownsRow w.heap.size 24 2 (.slice Ap n.length cp) n.length (posC (n.map BTok.pos))) (hk : LoS w x (.slice A K.len c) K ys D) :
    LoS w (x.alloc (NodeC (.slice Aw n.length cw) (.slice Ap n.length cp) b (.slice A K.len c))) (.slice (some ⟨x.heap.size, 0, none⟩) 1 1) (.cons (n.map BTok.b) (n.map BTok.pos) b K .nil) [.slice Aw n.length cw, .slice Ap n.length cp, .bool b, .slice A K.len c] (fun q => (Value.slice Aw n.length cw).ownBlock = some q ∨ (Value.slice Ap n.length cp).ownBlock = some q ∨ (Value.slice A K.len c).ownBlock = some q ∨ D q) := by
  have hbl := bel_one x (NodeC (.slice Aw n.length cw) (.slice Ap n.length cp) b (.slice A K.len c))
  have hlt : ∀ q, ((Value.slice Aw n.length cw).ownBlock = some q ∨ (Value.slice Ap n.length cp).ownBlock = some q ∨ (Value.slice A K.len c).ownBlock = some q ∨ D q) → w.heap.size ≤ q ∧ q < x.heap.size := by
    rintro q (h | h | h | h)
    · exact own_lt how h
    · exact own_lt hop h
    · exact own_lt hk.own h
    · exact ⟨(hk.hB q h).1, (hk.hB q h).2.1⟩
  have hz : (n.map fun (t : BTok) => Value.string t.b).length = n.length := List.length_map _
  refine ⟨⟨⟨rfl, .inr ⟨x.heap.size, 1, _, rfl, hx, heap_new x _, Nat.le_refl _, by decide, rfl, rfl⟩⟩, ?_, fun q hq => ⟨(hlt q hq).1, by simp; have := (hlt q hq).2; omega, fun e => ?_⟩⟩, ⟨_, _, _, _, ys, [], _, _, rfl, ⟨by rw [List.length_map]; exact (own_base how (Nat.zero_le _)).alloc _, fun g e => .inl e⟩, ⟨by rw [List.length_map]; exact (own_base hop (Nat.zero_le _)).alloc _, fun g e => .inr (.inl e)⟩, ⟨(own_base hk.own (Nat.zero_le _)).alloc _, fun g e => .inr (.inr (.inl e))⟩, (hk.fs.keep (fun q hq => hbl.block q (hk.hB q hq).2.1)).mono (fun q hq => .inr (.inr (.inr hq))), rfl⟩⟩
  · refine ⟨_, _, A, c, ys, [], rfl, ⟨Aw, cw, by rw [List.length_map], ?_, fun a ha => ⟨.inl (by rw [ha]; rfl), by rw [List.length_map]; exact (own_caps how).1⟩⟩, ⟨Ap, cp, by rw [List.length_map], ?_, fun a ha => .inr (.inl (by rw [ha]; rfl))⟩, (own_src hk.own).below hbl, fun a ha => .inr (.inr (.inl (by rw [ha]; rfl))), (hk.fo.keep (fun q hq => hbl.block q (hk.hB q hq).2.1)).mono (fun q hq => .inr (.inr (.inr hq))), rfl⟩
    · rw [List.length_map, List.map_map]
      exact (own_src how).below hbl
    · rw [List.length_map]
      exact (own_src hop).below hbl
  · have h2 := (hlt q hq).2
    have e' : x.heap.size = q := by injection e
    omega
theorem own_only {p : Nat} {x x' : World} {base n size : Nat} {e : TypeId} {v : Value} {xs : List Value} (h : x.ownsRow base e size v n xs) (ho : Only p x x') (hp : p < base) : x'.ownsRow base e size v n xs := h.kept ho (by
  cases hv : v.ownBlock with
  | none => exact .inl rfl
  | some g => exact .inr (fun e => by have := (h.lt g hv).1; injection e with e; omega))
theorem only_grow {p b6 : Nat} {w x y : World} (h : Only p w x) (h2 : x.grownBy y (some b6)) (hb : w.heap.size ≤ b6) : Only p w y := by
  refine ⟨h2.os.trans h.os, h2.tape.trans h.tape, h2.output.trans h.output, Nat.le_trans h.size h2.size, fun i hi hne => ?_⟩
  rw [h2.block i (Nat.lt_of_lt_of_le hi h.size) (fun e => by injection e with e; omega)]
  exact h.block i hi hne
theorem only_of_big {p b6 : Nat} {w x y z : World} (h : Only p w x) (h2 : x.grownBy y (some b6)) (h3 : Only p y z) (hb : w.heap.size ≤ b6) (_hp : p < w.heap.size) : Only p w z := by
  refine only_trans ⟨h2.os.trans h.os, h2.tape.trans h.tape, h2.output.trans h.output, Nat.le_trans h.size h2.size, fun i hi hne => ?_⟩ h3
  rw [h2.block i (Nat.lt_of_lt_of_le hi h.size) (fun e => by injection e with e; omega)]
  exact h.block i hi hne
theorem only_row {p : Nat} {w wr : World} (h : Only p w wr) (o : Obj) : Only p w (wr.alloc o) := only_alloc h o
theorem SB.only {p : Nat} {w wr w' : World} {b5 b6 : Nat} {first : Pl} {n : List BTok} {vw vp va : Value} {all : Fo} {xs : List Value} {B : Nat → Prop} {A A' : Option Addr} {cap cap' : Nat} {ts ts' : List BTok} (h : SB p w wr b5 b6 first n vw vp va all xs B A cap ts) (hp : p < w.heap.size) (ho : Only p wr w') (hr : RdX w' p A' cap' ts' 0 0 0) : SB p w w' b5 b6 first n vw vp va all xs B A' cap' ts' :=
  ⟨only_trans h.o ho, h.h5, h.h6, only_heap ho h.f5 (by have := h.h5; omega), only_heap ho h.n6 (by have := h.h6; omega), own_only h.ow ho hp, own_only h.op ho hp, h.al.grow ho (fun b e => by injection e with e; omega), hr⟩
theorem grown_of_below {w w' : World} (h : Below w.heap.size w w') : w.grownBy w' none := ⟨h.os, h.tape, h.output, h.size, fun i hi _ => h.block i hi⟩
theorem own_belw {x x' : World} {base n size : Nat} {e : TypeId} {v : Value} {xs : List Value} (h : x.ownsRow base e size v n xs) (hb : Below x.heap.size x x') : x'.ownsRow base e size v n xs := h.kept (grown_of_below hb) (by
  cases hv : v.ownBlock with
  | none => exact .inl rfl
  | some g => exact .inr (fun e => by cases e))
theorem posC_get : ∀ (ps : List Pl) (i : Nat) (q : Pl), ps[i]? = some q → (posC ps)[i * 2]? = some (.int .i64 q.1) ∧ (posC ps)[i * 2 + 1]? = some (.int .i64 q.2)
  | [], i, q, h => by simp at h
  | x :: xs, 0, q, h => by
    obtain rfl : x = q := by simpa using h
    exact ⟨rfl, rfl⟩
  | x :: xs, i + 1, q, h => by
    have := posC_get xs i q (by simpa using h)
    have e : posC (x :: xs) = .int .i64 x.1 :: .int .i64 x.2 :: posC xs := rfl
    rw [e, show (i + 1) * 2 = i * 2 + 1 + 1 by omega]
    exact this
/-- the copies that the loop makes -/
theorem clone_words (ws : List BTok) {base : Nat} {v : Value} (x : World) (h : x.ownsRow base 9 1 v ws.length (ws.map fun (t : BTok) => Value.string t.b)) (h1 : 1 ≤ ws.length) (h2 : ws.length ≤ 100000) :
    Calls Try.prog 68 #[v] x fun e x' => ∃ v', e = .returned v' ∧ x'.ownsRow x.heap.size 9 1 v' ws.length (ws.map fun (t : BTok) => Value.string t.b) ∧ Below x.heap.size x x' := by
  obtain ⟨g, c, rfl, _, _⟩ := own_some h h1
  refine (Try.slices_Clone_string g 0 ws.length c (ws.map BTok.b) x (by simp) (by omega) ?_).mono ?_
  · intro j hj
    rw [List.length_map] at hj
    have := own_cells h j (.string ws[j].b) (by rw [List.getElem?_map, List.getElem?_eq_getElem hj]; rfl)
    rw [show (⟨g, 0, none⟩ : Addr).add j = ⟨g, 0 + j, none⟩ by simp [Addr.add, eq_comm]] at this
    rw [this]
    simp [List.getD_eq_getElem?_getD, hj]
  · rintro e x' ⟨v', rfl, ho, _, hb⟩
    refine ⟨v', rfl, ?_, hb⟩
    have e : ((ws.map BTok.b).take ws.length).map Value.string = ws.map fun (t : BTok) => Value.string t.b := by
      rw [List.take_of_length_le (by simp), List.map_map]; rfl
    rw [e] at ho
    exact ho
theorem clone_pos (ws : List BTok) {base : Nat} {v : Value} (x : World) (h : x.ownsRow base 24 2 v ws.length (posC (ws.map BTok.pos))) (h1 : 1 ≤ ws.length) (h2 : ws.length ≤ 100000) :
    Calls Try.prog 69 #[v] x fun e x' => ∃ v', e = .returned v' ∧ x'.ownsRow x.heap.size 24 2 v' ws.length (posC (ws.map BTok.pos)) ∧ Below x.heap.size x x' := by
  obtain ⟨g, c, rfl, _, _⟩ := own_some h h1
  obtain ⟨qi, qz0, qz, qs, qb⟩ := info_parts infoP
  refine (AnyE.slices_Clone Try.laysClonePos qi _ 2 16 qz0 qz qs qb rfl (by decide) Try.sizeOf24 g 0 ws.length c (posC (ws.map BTok.pos)) x (by rw [posC_len, List.length_map]) (by unfold maxLen; omega) (by omega) ?_ ?_).mono ?_
  · intro j u hj
    have := own_cells h j u hj
    rw [show (⟨g, 0, none⟩ : Addr).add j = ⟨g, 0 + j, none⟩ by simp [Addr.add, eq_comm]] at this
    exact this
  · intro u hu
    unfold posC at hu
    obtain ⟨q, _, hq⟩ := List.mem_flatMap.1 hu
    simp at hq
    rcases hq with rfl | rfl <;> rfl
  · rintro e x' ⟨v', rfl, ho, _, hb⟩
    exact ⟨v', rfl, ho, hb⟩
/-- the drawn region in the loop over the words between the signs: what is loaded -/
structure DS (b6 b8 : Nat) (vw vp iw ip : Value) (g j : Nat) (u : BTok) (x : World) : Prop where
  n6 : x.heap[b6]? = some (.cells #[vw, vp, .bool false, .slice none 0 0] 44 (0, 0))
  n8 : x.heap[b8]? = some (.cells #[iw, ip, .bool false, .slice none 0 0] 44 (0, 0))
  c0 : x.cell? ⟨g, j * 2, none⟩ = some (.int .i64 u.l)
  c1 : x.cell? ⟨g, j * 2 + 1, none⟩ = some (.int .i64 u.c)
theorem DS.below {b6 b8 g j : Nat} {vw vp iw ip : Value} {u : BTok} {w x : World} (h : DS b6 b8 vw vp iw ip g j u w) (hg : g < w.heap.size) (hb : Below w.heap.size w x) : DS b6 b8 vw vp iw ip g j u x :=
  ⟨(hb.block _ (lt_heap h.n6)).trans h.n6, (hb.block _ (lt_heap h.n8)).trans h.n8, (cell_block (a := ⟨g, j * 2, none⟩) (hb.block g hg)).trans h.c0, (cell_block (a := ⟨g, j * 2 + 1, none⟩) (hb.block g hg)).trans h.c1⟩
/-- .. and what stands at the world x: the copies so far -/
structure Dz (wr x : World) (b6 b8 : Nat) (vw vp iw ip : Value) (g j : Nat) (u : BTok) (cw : Value) (dw : List BTok) (cp : Value) (dp : List BTok) : Prop where
  b : Below wr.heap.size wr x
  s0 : DS b6 b8 vw vp iw ip g j u wr
  lt : g < wr.heap.size
  ow : x.ownsRow wr.heap.size 9 1 cw dw.length (dw.map fun (t : BTok) => Value.string t.b)
  op : x.ownsRow wr.heap.size 24 2 cp dp.length (posC (dp.map BTok.pos))
section
variable {wr x x' : World} {b6 b8 g j : Nat} {vw vp iw ip cw cp v' : Value} {u : BTok} {dw dp : List BTok}
theorem Dz.s (h : Dz wr x b6 b8 vw vp iw ip g j u cw dw cp dp) : DS b6 b8 vw vp iw ip g j u x := h.s0.below h.lt h.b
theorem Dz.alloc (h : Dz wr x b6 b8 vw vp iw ip g j u cw dw cp dp) (o : Obj) : Dz wr (x.alloc o) b6 b8 vw vp iw ip g j u cw dw cp dp := ⟨h.b.alloc h.b.size o, h.s0, h.lt, h.ow.alloc o, h.op.alloc o⟩
theorem Dz.bel (h : Dz wr x b6 b8 vw vp iw ip g j u cw dw cp dp) (hb : Below x.heap.size x x') : Below wr.heap.size wr x' :=
  ⟨hb.os.trans h.b.os, hb.tape.trans h.b.tape, hb.output.trans h.b.output, Nat.le_trans h.b.size hb.size, fun i hi => (hb.block i (Nat.lt_of_lt_of_le hi h.b.size)).trans (h.b.block i hi)⟩
theorem Dz.cloneS (h : Dz wr x b6 b8 vw vp iw ip g j u (.slice none 0 0) [] cp dp) (ho : x'.ownsRow x.heap.size 9 1 v' dw.length (dw.map fun (t : BTok) => Value.string t.b)) (hb : Below x.heap.size x x') : Dz wr x' b6 b8 vw vp iw ip g j u v' dw cp dp :=
  ⟨h.bel hb, h.s0, h.lt, own_base ho h.b.size, own_belw h.op hb⟩
theorem Dz.cloneP (h : Dz wr x b6 b8 vw vp iw ip g j u cw dw (.slice none 0 0) []) (ho : x'.ownsRow x.heap.size 24 2 v' dp.length (posC (dp.map BTok.pos))) (hb : Below x.heap.size x x') : Dz wr x' b6 b8 vw vp iw ip g j u cw dw v' dp :=
  ⟨h.bel hb, h.s0, h.lt, own_belw h.ow hb, own_base ho h.b.size⟩
theorem Dz.str (h : Dz wr x b6 b8 vw vp iw ip g j u cw dw cp dp) (q : BTok) {n : Nat} (hn : n = dw.length + 1) (ho : x'.ownsRow wr.heap.size 9 1 v' n ((dw.map fun (t : BTok) => Value.string t.b) ++ [.string q.b])) (hg : x.grownBy x' cw.ownBlock) : Dz wr x' b6 b8 vw vp iw ip g j u v' (dw ++ [q]) cp dp := by
  subst hn
  refine ⟨h.b.grown hg h.b.size (fun k e => (h.ow.lt k e).1), h.s0, h.lt, by rw [List.length_append, List.map_append]; exact ho, h.op.kept hg ?_⟩
  cases hv : cp.ownBlock with
  | none => exact .inl rfl
  | some g => exact .inr (fun e => own_types h.op h.ow (by decide) g hv e.symm)
theorem Dz.pos (h : Dz wr x b6 b8 vw vp iw ip g j u cw dw cp dp) (q : BTok) {n : Nat} (hn : n = dp.length + 1) (ho : x'.ownsRow wr.heap.size 24 2 v' n (posC (dp.map BTok.pos) ++ [.int .i64 q.l, .int .i64 q.c])) (hg : x.grownBy x' cp.ownBlock) : Dz wr x' b6 b8 vw vp iw ip g j u cw dw v' (dp ++ [q]) := by
  subst hn
  refine ⟨h.b.grown hg h.b.size (fun k e => (h.op.lt k e).1), h.s0, h.lt, h.ow.kept hg ?_, by rw [List.length_append, List.map_append, posC_app]; exact ho⟩
  cases hv : cw.ownBlock with
  | none => exact .inl rfl
  | some g => exact .inr (fun e => own_types h.ow h.op (by decide) g hv e.symm)
end
/-- a leaf behind the leaves -/
theorem SI.leaf {p : Nat} {w wr x y : World} {b5 b6 b8 : Nat} {first : Pl} {n m : List BTok} {vw vp iw ip va v' : Value} {all : Fo} {xs : List Value} {B : Nat → Prop} {A : Option Addr} {cap : Nat} {ts : List BTok} {u : BTok} {cw cp : Value}
    (h : SI p w wr b5 b6 b8 first n m vw vp iw ip va all xs B A cap ts) (hp : p < w.heap.size) (h68 : b6 ≤ b8) (hv : ∀ g, va.ownBlock = some g → b8 < g) (hb : Below wr.heap.size wr x)
    (hcw : x.ownsRow wr.heap.size 9 1 cw (n ++ [u]).length ((n ++ [u]).map fun (t : BTok) => Value.string t.b)) (hcp : x.ownsRow wr.heap.size 24 2 cp (n ++ [u]).length (posC ((n ++ [u]).map BTok.pos)))
    (ho : y.ownsRow w.heap.size 44 4 v' (all.len + 1) (xs ++ [cw, cp, .bool false, .slice none 0 0])) (hg : (x.alloc (NodeC cw cp false (.slice none 0 0))).grownBy y va.ownBlock) (hk : v'.ownBlock = va.ownBlock ∨ v'.ownBlock = some (x.heap.size + 1)) :
    ∃ B', SI p w y b5 b6 b8 first n m vw vp iw ip v' (all.app (leafs n [u])) (xs ++ [cw, cp, .bool false, .slice none 0 0]) B' A cap ts ∧ ∀ g, v'.ownBlock = some g → b8 < g := by
  have hws := h.s.o.size
  have hbl : Below wr.heap.size wr (x.alloc (NodeC cw cp false (.slice none 0 0))) := hb.alloc hb.size _
  have hsz : (x.alloc (NodeC cw cp false (.slice none 0 0))).heap.size = x.heap.size + 1 := by simp
  have h8 := lt_heap h.n8
  have hor := only_of_below (R := p) hbl
  have hon := only_trans h.s.o hor
  have hal : LoS w (x.alloc (NodeC cw cp false (.slice none 0 0))) va all xs B := h.s.al.grow hor (fun b e => by injection e with e; omega)
  obtain ⟨Aw, dw, rfl⟩ := own_slice hcw
  obtain ⟨Ap, dp, rfl⟩ := own_slice hcp
  have hln := lo_node (w := wr) (K := .nil) (A := none) (c := 0) (ys := []) (D := fun _ => False) false hb.size hcw hcp (los_nil wr x)
  have hap := LoS.app hal hln (fun g e => (h.s.al.own.lt g e).2) hws ho hg (by rw [hsz]; exact hk)
  have hlf : leafs n [u] = .cons ((n ++ [u]).map BTok.b) ((n ++ [u]).map BTok.pos) false .nil .nil := by simp [leafs]
  rw [← hlf] at hap
  have hrow : ∀ g, va.ownBlock = some g → w.heap.size ≤ g := fun g e => (h.s.al.own.lt g e).1
  have hon2 : Only p w y := ⟨hg.os.trans hon.os, hg.tape.trans hon.tape, hg.output.trans hon.output, Nat.le_trans hon.size hg.size, fun i hi hne => by
    rw [hg.block i (Nat.lt_of_lt_of_le hi hon.size) (fun e => by have := hrow i e.symm; omega)]
    exact hon.block i hi hne⟩
  have hbb : ∀ i, i ≤ b8 → y.heap[i]? = wr.heap[i]? := fun i hi => by
    rw [hg.block i (by rw [hsz]; have := hb.size; omega) (fun e => by have := hv i e.symm; omega)]
    exact hbl.block i (by omega)
  have h5 := h.s.h5
  have own2 : ∀ {base size k : Nat} {e : TypeId} {v : Value} {zs : List Value}, wr.ownsRow base e size v k zs → e ≠ 44 → y.ownsRow base e size v k zs := fun {base size k e v zs} hh hne => (own_belw hh hbl).kept hg (by
    cases hvv : v.ownBlock with
    | none => exact .inl rfl
    | some g => exact .inr (fun e' => own_types (own_belw hh hbl) hal.own hne g hvv e'.symm))
  have h5y : y.heap[b5]? = wr.heap[b5]? := by
    rw [hg.block b5 (by rw [hsz]; have := lt_heap h.s.f5; have := hb.size; omega) (fun e => own_ne_row h.s.al.own h.s.f5 (by decide) e.symm)]
    exact hbl.block b5 (lt_heap h.s.f5)
  refine ⟨_, ⟨⟨hon2, h.s.h5, h.s.h6, h5y.trans h.s.f5, (hbb b6 h68).trans h.s.n6, own2 h.s.ow (by decide), own2 h.s.op (by decide), hap, (h.s.r.below hbl).only hg (fun b e => by have := hrow b e; omega)⟩, (hbb b8 (Nat.le_refl _)).trans h.n8, own2 h.iw (by decide), own2 h.ip (by decide)⟩, ?_⟩
  intro g e
  rcases hk with hk | hk
  · exact hv g (by rw [← hk]; exact e)
  · rw [hk] at e
    injection e with e
    have := hb.size
    omega
end Go.Proofs.Ytihmmmodimionaa.Tr
