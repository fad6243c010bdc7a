/- Statements of braces in plain words: forests; what a row of tokens reads as; how a forest lies in memory. -/
import Derived.Test.YtihmmmodimionaaOD
namespace Go.Proofs.Ytihmmmodimionaa.Lx
def BTok.pos (x : BTok) : Int × Int := (x.l, x.c)
end Go.Proofs.Ytihmmmodimionaa.Lx
namespace Go.Proofs.Ytihmmmodimionaa.Tr
open Go.RowKit Go.Proofs.Ytihmmmodimionaa Go.Proofs.Ytihmmmodimionaa.Lx

/-- statements: the first one's words, places, whether it opens a block, what stands in it; the others -/
inductive Fo where
  | nil : Fo
  | cons (ws : List ByteArray) (ps : List (Int × Int)) (blk : Bool) (kids rest : Fo) : Fo
def Fo.len : Fo → Nat
  | .nil => 0
  | .cons _ _ _ _ r => r.len + 1
def Fo.app : Fo → Fo → Fo
  | .nil, G => G
  | .cons ws ps b k r, G => .cons ws ps b k (r.app G)
theorem Fo.app_nil : ∀ F : Fo, F.app .nil = F
  | .nil => rfl
  | .cons _ _ _ _ r => by rw [Fo.app, Fo.app_nil r]
theorem Fo.app_assoc : ∀ F G H : Fo, (F.app G).app H = F.app (G.app H)
  | .nil, _, _ => rfl
  | .cons _ _ _ _ r, G, H => by rw [Fo.app, Fo.app, Fo.app, Fo.app_assoc r]
theorem Fo.len_app : ∀ F G : Fo, (F.app G).len = F.len + G.len
  | .nil, G => by simp [Fo.app, Fo.len]
  | .cons _ _ _ _ r, G => by rw [Fo.app, Fo.len, Fo.len, Fo.len_app r]; omega
theorem Fo.len_nil {F : Fo} (h : F.len = 0) : F = .nil := by cases F <;> simp_all [Fo.len]

/-! ### reading -/
def wordsT : List BTok → List BTok
  | [] => []
  | t :: ts => if t.k = 1 then t :: wordsT ts else []
def behindT : List BTok → List BTok
  | [] => []
  | t :: ts => if t.k = 1 then behindT ts else t :: ts
theorem words_behind : ∀ ts : List BTok, wordsT ts ++ behindT ts = ts
  | [] => rfl
  | t :: ts => by
    unfold wordsT behindT
    split
    · rw [List.cons_append, words_behind ts]
    · rfl
theorem behind_le (ts : List BTok) : (behindT ts).length ≤ ts.length := by
  have := congrArg List.length (words_behind ts)
  simp at this
  omega
theorem wordsT_k : ∀ (ts : List BTok), ∀ t ∈ wordsT ts, t.k = 1
  | [], t, h => by cases h
  | x :: xs, t, h => by
    unfold wordsT at h
    split at h
    · rcases List.mem_cons.1 h with e | e
      · rw [e]; assumption
      · exact wordsT_k xs t e
    · cases h
/-- leaves out of a statement with signs -/
def leafs (n : List BTok) : List BTok → Fo
  | [] => .nil
  | x :: xs => .cons (n.map BTok.b ++ [x.b]) (n.map BTok.pos ++ [x.pos]) false .nil (leafs n xs)
theorem leafs_len (n : List BTok) : ∀ l : List BTok, (leafs n l).len = l.length
  | [] => rfl
  | _ :: xs => by rw [leafs, Fo.len, leafs_len n xs]; rfl
theorem leafs_app (n : List BTok) : ∀ a b : List BTok, leafs n (a ++ b) = (leafs n a).app (leafs n b)
  | [], _ => rfl
  | x :: xs, b => by rw [List.cons_append, leafs, leafs, Fo.app, leafs_app n xs b]
inductive PR where
  | ok (F : Fo) (rest : List BTok) : PR
  | err (e l c : Int) : PR
/-- the end of a statement of the words n (or of the leaves 'all') -/
def tailS (rec : Int × Int → List BTok → PR) (deep : Nat) (first : Int × Int) (n : List BTok) (all : Fo) : List BTok → PR
  | [] => .err 71 first.1 first.2
  | t :: ts =>
    if t.k = 4 then .ok (if all.len = 0 then .cons (n.map BTok.b) (n.map BTok.pos) false .nil .nil else all) ts
    else if t.k = 2 ∧ all.len = 0 then
      if deep = 32 then .err 140 t.l t.c
      else match rec t.pos ts with
        | .ok K r => .ok (.cons (n.map BTok.b) (n.map BTok.pos) true K .nil) r
        | .err e l c => .err e l c
    else .err 130 t.l t.c
def stmtF (rec : Int × Int → List BTok → PR) (deep : Nat) (first : Int × Int) (toks : List BTok) : PR :=
  match behindT toks with
  | [] => .err 71 first.1 first.2
  | t :: ts =>
    if t.k = 5 then
      match behindT ts with
      | [] => .err 71 first.1 first.2
      | u :: us => if u.k = 6 ∧ (wordsT ts).length ≠ 0 then tailS rec deep first (wordsT toks) (leafs (wordsT toks) (wordsT ts)) us else .err 130 u.l u.c
    else tailS rec deep first (wordsT toks) .nil (t :: ts)
def putF (F : Fo) : PR → PR
  | .ok G r => .ok (F.app G) r
  | .err e l c => .err e l c
def listF : Nat → Nat → Int × Int → List BTok → PR
  | 0, _, _, _ => .err 0 0 0
  | _ + 1, deep, op, [] => if deep = 0 then .ok .nil [] else .err 71 op.1 op.2
  | f + 1, deep, op, t :: ts =>
    if t.k = 3 then if deep = 0 then .err 130 t.l t.c else .ok .nil ts
    else if t.k = 1 then
      match stmtF (fun o r => listF f (deep + 1) o r) deep t.pos (t :: ts) with
      | .ok F r => putF F (listF f deep op r)
      | .err e l c => .err e l c
    else .err 130 t.l t.c
theorem putF_nil (r : PR) : putF .nil r = r := by cases r <;> rfl
theorem putF_put (F G : Fo) (r : PR) : putF F (putF G r) = putF (F.app G) r := by cases r <;> simp [putF, Fo.app_assoc]

/-! ### in memory -/
def StrV (w : World) (B : Nat → Prop) (v : Value) (ws : List ByteArray) : Prop :=
  ∃ A c, v = .slice A ws.length c ∧ Src w A ws.length c 1 (ws.map Value.string) ∧ ∀ a, A = some a → B a.block
def posC (ps : List (Int × Int)) : List Value := ps.flatMap fun p => [.int .i64 p.1, .int .i64 p.2]
def PosV (w : World) (B : Nat → Prop) (v : Value) (ps : List (Int × Int)) : Prop :=
  ∃ A c, v = .slice A ps.length c ∧ Src w A ps.length c 2 (posC ps) ∧ ∀ a, A = some a → B a.block
def FoV (w : World) (B : Nat → Prop) : Fo → List Value → Prop
  | .nil, xs => xs = []
  | .cons ws ps blk kids rest, xs => ∃ vw vp A c ys xs', xs = vw :: vp :: .bool blk :: .slice A kids.len c :: xs' ∧ StrV w B vw ws ∧ PosV w B vp ps ∧ Src w A kids.len c 4 ys ∧ (∀ a, A = some a → B a.block) ∧ FoV w B kids ys ∧ FoV w B rest xs'
theorem posC_len (ps : List (Int × Int)) : (posC ps).length = ps.length * 2 := by
  induction ps with
  | nil => rfl
  | cons p ps ih => unfold posC at *; simp [List.flatMap_cons, ih]; omega
theorem posC_app (a b : List (Int × Int)) : posC (a ++ b) = posC a ++ posC b := by simp [posC]
theorem cell_block {w w' : World} {a : Addr} (h : w'.heap[a.block]? = w.heap[a.block]?) : w'.cell? a = w.cell? a := by
  unfold World.cell?
  rw [h]
theorem add_block (a : Addr) (j : Nat) : (a.add j).block = a.block := by
  cases j <;> rfl
theorem src_keep {w w' : World} {A : Option Addr} {m c size : Nat} {xs : List Value} (h : Src w A m c size xs) (hb : ∀ a, A = some a → w'.heap[a.block]? = w.heap[a.block]?) : Src w' A m c size xs := by
  obtain ⟨h1, h2 | ⟨ad, h2, h3⟩⟩ := h
  · exact ⟨h1, .inl h2⟩
  · refine ⟨h1, .inr ⟨ad, h2, fun j u hu => ?_⟩⟩
    rw [cell_block (w := w) (by rw [add_block]; exact hb ad h2)]
    exact h3 j u hu
section
variable {w w' : World} {B B' : Nat → Prop}
theorem StrV.keep {v : Value} {ws : List ByteArray} (h : StrV w B v ws) (hb : ∀ b, B b → w'.heap[b]? = w.heap[b]?) : StrV w' B v ws := by
  obtain ⟨A, c, e, hs, hB⟩ := h
  exact ⟨A, c, e, src_keep hs (fun a ha => hb _ (hB a ha)), hB⟩
theorem PosV.keep {v : Value} {ps : List (Int × Int)} (h : PosV w B v ps) (hb : ∀ b, B b → w'.heap[b]? = w.heap[b]?) : PosV w' B v ps := by
  obtain ⟨A, c, e, hs, hB⟩ := h
  exact ⟨A, c, e, src_keep hs (fun a ha => hb _ (hB a ha)), hB⟩
theorem StrV.mono {v : Value} {ws : List ByteArray} (h : StrV w B v ws) (hb : ∀ b, B b → B' b) : StrV w B' v ws := by
  obtain ⟨A, c, e, hs, hB⟩ := h
  exact ⟨A, c, e, hs, fun a ha => hb _ (hB a ha)⟩
theorem PosV.mono {v : Value} {ps : List (Int × Int)} (h : PosV w B v ps) (hb : ∀ b, B b → B' b) : PosV w B' v ps := by
  obtain ⟨A, c, e, hs, hB⟩ := h
  exact ⟨A, c, e, hs, fun a ha => hb _ (hB a ha)⟩
theorem FoV.keep : ∀ {F : Fo} {xs : List Value}, FoV w B F xs → (∀ b, B b → w'.heap[b]? = w.heap[b]?) → FoV w' B F xs
  | .nil, _, h, _ => h
  | .cons ws ps blk kids rest, xs, h, hb => by
    obtain ⟨vw, vp, A, c, ys, xs', e, h1, h2, h3, h4, h5, h6⟩ := h
    exact ⟨vw, vp, A, c, ys, xs', e, h1.keep hb, h2.keep hb, src_keep h3 (fun a ha => hb _ (h4 a ha)), h4, FoV.keep h5 hb, FoV.keep h6 hb⟩
theorem FoV.mono : ∀ {F : Fo} {xs : List Value}, FoV w B F xs → (∀ b, B b → B' b) → FoV w B' F xs
  | .nil, _, h, _ => h
  | .cons ws ps blk kids rest, xs, h, hb => by
    obtain ⟨vw, vp, A, c, ys, xs', e, h1, h2, h3, h4, h5, h6⟩ := h
    exact ⟨vw, vp, A, c, ys, xs', e, h1.mono hb, h2.mono hb, h3, fun a ha => hb _ (h4 a ha), FoV.mono h5 hb, FoV.mono h6 hb⟩
theorem FoV.len : ∀ {F : Fo} {xs : List Value}, FoV w B F xs → xs.length = F.len * 4
  | .nil, _, h => by rw [show _ = [] from h]; rfl
  | .cons ws ps blk kids rest, xs, h => by
    obtain ⟨vw, vp, A, c, ys, xs', e, h1, h2, h3, h4, h5, h6⟩ := h
    have := FoV.len h6
    rw [e, Fo.len]
    simp only [List.length_cons]
    omega
theorem FoV.app : ∀ {F : Fo} {G : Fo} {xs ys : List Value}, FoV w B F xs → FoV w B G ys → FoV w B (F.app G) (xs ++ ys)
  | .nil, _, _, _, h, h' => by rw [show _ = [] from h]; exact h'
  | .cons ws ps blk kids rest, G, xs, ys, h, h' => by
    obtain ⟨vw, vp, A, c, zs, xs', e, h1, h2, h3, h4, h5, h6⟩ := h
    exact ⟨vw, vp, A, c, zs, xs' ++ ys, by rw [e]; rfl, h1, h2, h3, h4, h5, FoV.app h6 h'⟩
theorem FoV.one : ∀ {F : Fo} {xs : List Value}, FoV w B F xs → ∀ u ∈ xs, u.oneCell' = true
  | .nil, _, h, u, hu => by rw [show _ = [] from h] at hu; cases hu
  | .cons ws ps blk kids rest, xs, h, u, hu => by
    obtain ⟨vw, vp, A, c, zs, xs', e, h1, h2, h3, h4, h5, h6⟩ := h
    obtain ⟨_, _, e1, _⟩ := h1
    obtain ⟨_, _, e2, _⟩ := h2
    rw [e] at hu
    rcases List.mem_cons.1 hu with r | hu
    · rw [r, e1]; rfl
    rcases List.mem_cons.1 hu with r | hu
    · rw [r, e2]; rfl
    rcases List.mem_cons.1 hu with r | hu
    · rw [r]; rfl
    rcases List.mem_cons.1 hu with r | hu
    · rw [r]; rfl
    · exact FoV.one h6 u hu
end
/-- a row of tokens -/
abbrev TokS (w : World) (A : Option Addr) (c : Nat) (ts : List BTok) : Prop := Src w A ts.length c 4 (ts.flatMap BTok.cells)
/-- the reader's block: what is left, the first error and its place -/
structure RdX (w : World) (p : Nat) (A : Option Addr) (cap : Nat) (ts : List BTok) (e l c : Int) : Prop where
  h : w.heap[p]? = some (.cells #[.slice A ts.length cap, .int .i64 e, .int .i64 l, .int .i64 c] 79 (0, 0))
  t : TokS w A cap ts
  lt : ∀ a, A = some a → a.block < p
  cp : ts.length ≤ cap
  cm : cap ≤ maxLen
  kz : ∀ t ∈ ts, t.k ≠ 0
end Go.Proofs.Ytihmmmodimionaa.Tr
