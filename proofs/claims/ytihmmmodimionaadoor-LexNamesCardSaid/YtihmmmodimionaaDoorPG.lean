/- Plain words on texts that are put together again: cut once more they are the same. No program is in sight. -/
import Derived.Test.YtihmmmodimionaaDoorPL
namespace Go.Proofs.YtihmmmodimionaaDoor.Lx
open Go

/-- a byte that may stand in a row -/
def okB (x : UInt8) : Prop := 32 ≤ x.toNat ∧ x.toNat ≤ 126
theorem okB_ne {x : UInt8} (h : okB x) : x ≠ 10 := by
  rintro rfl
  exact absurd h.1 (by decide)
theorem chkL_good : ∀ (s : List UInt8) (l c : Int), (∀ x ∈ s, x = 10 ∨ okB x) → l + s.count 10 ≤ 4096 → (chkL s l c).2.2 = 0 := by
  intro s
  induction s with
  | nil => intro l c _ _; rfl
  | cons x xs ih =>
    intro l c h hl
    rw [chkL, if_neg (by omega)]
    rw [List.count_cons] at hl
    by_cases hx : x = 10
    · rw [if_pos hx]
      rw [if_pos (by simpa using hx)] at hl
      exact ih _ _ (fun y hy => h y (by simp [hy])) (by push_cast at hl; omega)
    · rw [if_neg hx]
      have : okB x := (h x (by simp)).resolve_left hx
      rw [if_neg (by unfold okB at this; omega)]
      exact ih _ _ (fun y hy => h y (by simp [hy])) (by split at hl <;> push_cast at hl <;> omega)
theorem chk_good {s : List UInt8} (h : ∀ x ∈ s, x = 10 ∨ okB x) (hc : s.count 10 ≤ 4095) (hl : s.length ≤ 65536) : (chk s).2.2 = 0 := by
  unfold chk
  rw [if_neg (by omega)]
  exact chkL_good s 1 1 h (by omega)
theorem chk_bad {s : List UInt8} (h : ∀ x ∈ s, x = 10 ∨ okB x) (hc : s.count 10 ≤ 4095) (he : ¬ (chk s).2.2 = 0) : 65536 < s.length := by
  rcases Nat.lt_or_ge 65536 s.length with h1 | h1
  · exact h1
  · exact absurd (chk_good h hc h1) he

/-- a row of blanks -/
def blk (n : Nat) : List UInt8 := List.replicate n 32
theorem blk_ok (n : Nat) : ∀ x ∈ blk n, okB x := by
  intro x hx
  have := List.eq_of_mem_replicate hx
  subst this
  exact ⟨by decide, by decide⟩
theorem wds_blk : ∀ (n : Nat) (r : List UInt8) (i : Int), wds (blk n ++ r) i [] = wds r (i + n) [] := by
  intro n
  induction n with
  | zero => intro r i; simp [blk]
  | succ n ih =>
    intro r i
    rw [blk, List.replicate_succ, List.cons_append, wds, if_pos rfl]
    have := ih r (i + 1)
    rw [blk] at this
    rw [this]
    simp only [endW, if_true, List.nil_append]
    congr 1
    push_cast
    omega
/-- a word that may be written -/
def goodW (t : List UInt8) : Prop := t ≠ [] ∧ ∀ x ∈ t, okB x ∧ x ≠ 32
theorem wds_word (t : List UInt8) (g : Nat) (r : List UInt8) (i : Int) (h : goodW t) (hg : 1 ≤ g) : wds (t ++ blk g ++ r) i [] = ⟨t, i + 1⟩ :: wds r (i + t.length + g) [] := by
  obtain ⟨k, rfl⟩ : ∃ k, g = k + 1 := ⟨g - 1, by omega⟩
  rw [List.append_assoc, wds_run t _ i [] (fun x hx => (h.2 x hx).2), blk, List.replicate_succ, List.cons_append, wds, if_pos rfl, List.nil_append, endW, if_neg h.1]
  have := wds_blk k r (i + t.length + 1)
  rw [blk] at this
  rw [this]
  simp only [List.singleton_append]
  congr 1
  · congr 1; omega
  · congr 1; push_cast; omega

def lnT (g : Nat) (cm : List UInt8) (x : Ln) : List UInt8 := blk x.ind.toNat ++ x.ws.flatMap (fun w => w.t ++ blk g) ++ ([10, 32, 32, 33, 32] ++ cm ++ [10, 10])
def agT (g : Nat) (cm : List UInt8) (ls : List Ln) : List UInt8 := ls.flatMap (lnT g cm)
/-- what counts of a line -/
def core (x : Ln) : Int × List (List UInt8) := (x.ind, x.ws.map Wd.t)
structure goodL (x : Ln) : Prop where
  ind : 0 ≤ x.ind
  ne : x.ws ≠ []
  words : ∀ w ∈ x.ws, goodW w.t
  bang : ∀ w ws, x.ws = w :: ws → ¬ w.t.headD 0 = 33

theorem wds_words (g : Nat) (hg : 1 ≤ g) : ∀ (ws : List Wd) (i : Int), (∀ w ∈ ws, goodW w.t) → (wds (ws.flatMap (fun w => w.t ++ blk g)) i []).map Wd.t = ws.map Wd.t ∧ ∀ w ws', wds (ws.flatMap (fun w => w.t ++ blk g)) i [] = w :: ws' → w.c = i + 1 := by
  intro ws
  induction ws with
  | nil => intro i _; simp [wds, endW]
  | cons w ws ih =>
    intro i h
    rw [List.flatMap_cons, wds_word w.t g _ i (h w (by simp)) hg]
    refine ⟨?_, ?_⟩
    · rw [List.map_cons, List.map_cons, (ih _ (fun w' hw' => h w' (by simp [hw']))).1]
    · intro w' ws' he
      injection he with h1 h2
      rw [← h1]
theorem lnT_row_ok {g : Nat} {x : Ln} (h : goodL x) : ∀ y ∈ blk x.ind.toNat ++ x.ws.flatMap (fun w => w.t ++ blk g), okB y := by
  intro y hy
  rcases List.mem_append.1 hy with hy | hy
  · exact blk_ok _ y hy
  · obtain ⟨w, hw, hy⟩ := List.mem_flatMap.1 hy
    rcases List.mem_append.1 hy with hy | hy
    · exact ((h.words w hw).2 y hy).1
    · exact blk_ok _ y hy
theorem lnT_line {g : Nat} (hg : 1 ≤ g) {x : Ln} (h : goodL x) (n : Int) : ∃ y, lineOf n (blk x.ind.toNat ++ x.ws.flatMap (fun w => w.t ++ blk g)) = [y] ∧ core y = core x := by
  have hw := wds_blk x.ind.toNat (x.ws.flatMap (fun w => w.t ++ blk g)) 0
  obtain ⟨h1, h2⟩ := wds_words g hg x.ws (0 + (x.ind.toNat : Nat)) h.words
  rw [← hw] at h1 h2
  cases hws : wds (blk x.ind.toNat ++ x.ws.flatMap (fun w => w.t ++ blk g)) 0 [] with
  | nil =>
    rw [hws] at h1
    have := h1.symm
    simp at this
    exact absurd this h.ne
  | cons w ws =>
    rw [hws] at h1
    have hc := h2 w ws hws
    obtain ⟨w0, ws0, h0⟩ := List.exists_cons_of_ne_nil h.ne
    rw [h0] at h1
    simp only [List.map_cons, List.cons.injEq] at h1
    have hb := h.bang w0 ws0 h0
    rw [← h1.1] at hb
    refine ⟨_, lineOf_is hws hb, ?_⟩
    unfold core
    have hi := h.ind
    simp only [h0, List.map_cons, h1.1, h1.2]
    congr 1
    omega
theorem rest_line (cm : List UInt8) (hcm : ∀ x ∈ cm, okB x ∧ x ≠ 32) (n : Int) : lineOf n ([32, 32, 33, 32] ++ cm) = [] := by
  have h : ∃ ws, wds ([32, 32, 33, 32] ++ cm) 0 [] = ⟨[33], 3⟩ :: ws := by
    refine ⟨wds cm 4 [], ?_⟩
    simp only [List.cons_append, List.nil_append, wds, if_true, endW, List.length_nil]
    rfl
  obtain ⟨ws, h⟩ := h
  exact lineOf_bang h rfl
theorem agT_lines {g : Nat} (hg : 1 ≤ g) {cm : List UInt8} (hcm : ∀ x ∈ cm, okB x ∧ x ≠ 32) : ∀ (ls : List Ln) (n : Int), (∀ x ∈ ls, goodL x) → (linesOf (rowsOf (agT g cm ls) []) n).map core = ls.map core := by
  intro ls
  induction ls with
  | nil => intro n _; simp [agT, rowsOf, linesOf, lineOf, wds, endW]
  | cons x xs ih =>
    intro n h
    have hx := h x (by simp)
    have e : agT g cm (x :: xs) = (blk x.ind.toNat ++ x.ws.flatMap (fun w => w.t ++ blk g)) ++ (10 :: (([32, 32, 33, 32] ++ cm) ++ (10 :: 10 :: agT g cm xs))) := by
      simp [agT, lnT]
    rw [e, rowsOf_run _ _ _ (fun y hy => okB_ne (lnT_row_ok hx y hy)), rowsOf, if_pos rfl, rowsOf_run ([32, 32, 33, 32] ++ cm) _ _ (by
      intro y hy
      rcases List.mem_append.1 hy with hy | hy
      · simp at hy; rcases hy with rfl | rfl | rfl <;> decide
      · exact okB_ne (hcm y hy).1), rowsOf, if_pos rfl, rowsOf, if_pos rfl]
    simp only [List.nil_append, linesOf]
    obtain ⟨y, h1, h2⟩ := lnT_line hg hx n
    have h3 := rest_line cm hcm (n + 1)
    have h4 : lineOf (n + 1 + 1) [] = [] := by simp [lineOf, wds, endW]
    rw [h1, h3, h4]
    simp only [List.nil_append, List.singleton_append, List.map_cons, h2]
    rw [ih _ (fun z hz => h z (by simp [hz]))]
theorem lnT_ok {g : Nat} {cm : List UInt8} (hcm : ∀ x ∈ cm, okB x ∧ x ≠ 32) {x : Ln} (h : goodL x) : (∀ y ∈ lnT g cm x, y = 10 ∨ okB y) ∧ (lnT g cm x).count 10 = 3 := by
  have hr := lnT_row_ok (g := g) h
  have hz : ∀ l : List UInt8, (∀ y ∈ l, okB y) → l.count 10 = 0 := fun l hl => List.count_eq_zero.2 (fun hm => okB_ne (hl 10 hm) rfl)
  refine ⟨fun y hy => ?_, ?_⟩
  · rcases List.mem_append.1 hy with hy | hy
    · exact .inr (hr y hy)
    · rcases List.mem_append.1 hy with hy | hy
      · rcases List.mem_append.1 hy with hy | hy
        · simp at hy
          rcases hy with rfl | rfl | rfl | rfl <;> first | exact .inl rfl | exact .inr ⟨by decide, by decide⟩
        · exact .inr (hcm y hy).1
      · simp at hy; exact .inl hy
  · unfold lnT
    rw [List.count_append, hz _ hr, List.count_append, List.count_append, hz cm (fun y hy => (hcm y hy).1)]
    rfl
theorem agT_ok {g : Nat} {cm : List UInt8} (hcm : ∀ x ∈ cm, okB x ∧ x ≠ 32) : ∀ (ls : List Ln), (∀ x ∈ ls, goodL x) → (∀ y ∈ agT g cm ls, y = 10 ∨ okB y) ∧ (agT g cm ls).count 10 = 3 * ls.length := by
  intro ls
  induction ls with
  | nil => intro _; simp [agT]
  | cons x xs ih =>
    intro h
    obtain ⟨h1, h2⟩ := ih (fun z hz => h z (by simp [hz]))
    obtain ⟨h3, h4⟩ := lnT_ok (g := g) hcm (h x (by simp))
    have e : agT g cm (x :: xs) = lnT g cm x ++ agT g cm xs := by simp [agT]
    rw [e]
    refine ⟨fun y hy => (List.mem_append.1 hy).elim (h3 y) (h1 y), ?_⟩
    rw [List.count_append, h4, h2, List.length_cons]
    omega
theorem wds_mem : ∀ (r : List UInt8) (i : Int) (cur : List UInt8), ∀ w ∈ wds r i cur, w.t ≠ [] ∧ ∀ b ∈ w.t, b ∈ cur ∨ (b ∈ r ∧ b ≠ 32) := by
  intro r
  have hend : ∀ (i : Int) (cur : List UInt8), ∀ w ∈ endW i cur, w.t ≠ [] ∧ ∀ b ∈ w.t, b ∈ cur := by
    intro i cur w hw
    unfold endW at hw
    split at hw
    · cases hw
    · rename_i hc
      have : w = ⟨cur, i - cur.length + 1⟩ := by simpa using hw
      subst this
      exact ⟨hc, fun b hb => hb⟩
  induction r with
  | nil => intro i cur w hw; rw [wds] at hw; exact ⟨(hend i cur w hw).1, fun b hb => .inl ((hend i cur w hw).2 b hb)⟩
  | cons x xs ih =>
    intro i cur w hw
    rw [wds] at hw
    split at hw
    · rcases List.mem_append.1 hw with hw | hw
      · exact ⟨(hend i cur w hw).1, fun b hb => .inl ((hend i cur w hw).2 b hb)⟩
      · obtain ⟨h1, h2⟩ := ih _ _ w hw
        refine ⟨h1, fun b hb => ?_⟩
        rcases h2 b hb with h | h
        · cases h
        · exact .inr ⟨by simp [h.1], h.2⟩
    · rename_i hx
      obtain ⟨h1, h2⟩ := ih _ _ w hw
      refine ⟨h1, fun b hb => ?_⟩
      rcases h2 b hb with h | h
      · rcases List.mem_append.1 h with h | h
        · exact .inl h
        · have : b = x := by simpa using h
          exact .inr ⟨by simp [this], by rw [this]; exact hx⟩
      · exact .inr ⟨by simp [h.1], h.2⟩
theorem rowsOf_mem : ∀ (s cur : List UInt8), ∀ r ∈ rowsOf s cur, ∀ b ∈ r, b ∈ cur ∨ (b ∈ s ∧ b ≠ 10) := by
  intro s
  induction s with
  | nil => intro cur r hr b hb; have : r = cur := by simpa [rowsOf] using hr
           rw [this] at hb; exact .inl hb
  | cons x xs ih =>
    intro cur r hr b hb
    rw [rowsOf] at hr
    split at hr
    · rcases List.mem_cons.1 hr with rfl | hr
      · exact .inl hb
      · rcases ih _ r hr b hb with h | h
        · cases h
        · exact .inr ⟨by simp [h.1], h.2⟩
    · rename_i hx
      rcases ih _ r hr b hb with h | h
      · rcases List.mem_append.1 h with h | h
        · exact .inl h
        · have : b = x := by simpa using h
          exact .inr ⟨by simp [this], by rw [this]; exact hx⟩
      · exact .inr ⟨by simp [h.1], h.2⟩
theorem linesOf_good (s : List UInt8) (hs : ∀ x ∈ s, x = 10 ∨ okB x) : ∀ (rows : List (List UInt8)) (n : Int), (∀ r ∈ rows, r ∈ rowsOf s []) → ∀ x ∈ linesOf rows n, goodL x := by
  intro rows
  induction rows with
  | nil => intro n _ x hx; cases hx
  | cons r rs ih =>
    intro n h x hx
    rw [linesOf] at hx
    rcases List.mem_append.1 hx with hx | hx
    · unfold lineOf at hx
      have hw := wds_ok r [] [] 0 (by simp)
      simp only [List.nil_append, List.length_nil, Nat.add_zero, Int.natCast_zero] at hw
      have hm := wds_mem r 0 []
      cases hwd : wds r 0 [] with
      | nil => rw [hwd] at hx; cases hx
      | cons w ws =>
        rw [hwd] at hx hw hm
        simp only at hx
        split at hx
        · cases hx
        · rename_i hb
          have e : x = ⟨w.c - 1, n, w :: ws⟩ := by simpa using hx
          subst e
          refine ⟨?_, List.cons_ne_nil _ _, ?_, ?_⟩
          · have := hw.2.1
            show 0 ≤ w.c - 1
            omega
          · intro w' hw'
            obtain ⟨h1, h2⟩ := hm w' hw'
            refine ⟨h1, fun b hb => ?_⟩
            rcases h2 b hb with h3 | h3
            · cases h3
            · rcases rowsOf_mem s [] r (h r (by simp)) b h3.1 with h4 | h4
              · cases h4
              · exact ⟨(hs b h4.1).resolve_left h4.2, h3.2⟩
          · intro w' ws' he
            injection he with h1 h2
            rw [← h1]; exact hb
    · exact ih _ (fun r' hr' => h r' (by simp [hr'])) x hx
theorem linRes_good (s : List UInt8) : ∀ x ∈ (linRes s).1, goodL x := by
  unfold linRes
  split
  · rename_i h
    exact linesOf_good s (fun x hx => (chk_ok h x hx)) _ 1 (fun r hr => hr)
  · intro x hx; cases hx
/-- the lines of a text, put together and cut again -/
theorem again_lines (s : List UInt8) (g : Nat) (cm : List UInt8) (hg : 1 ≤ g) (hcm : ∀ x ∈ cm, okB x ∧ x ≠ 32) (hn : (linRes s).1.length ≤ 1000) :
    ((linRes (agT g cm (linRes s).1)).2.2.2 = 0 ∧ (linRes (agT g cm (linRes s).1)).1.map core = (linRes s).1.map core) ∨ (¬ (linRes (agT g cm (linRes s).1)).2.2.2 = 0 ∧ 65536 < (agT g cm (linRes s).1).length) := by
  have hgood := linRes_good s
  generalize (linRes s).1 = ls at *
  obtain ⟨h1, h2⟩ := agT_ok (g := g) hcm ls hgood
  by_cases hc : (chk (agT g cm ls)).2.2 = 0
  · left
    rw [linRes_ok hc]
    exact ⟨rfl, agT_lines hg hcm ls 1 hgood⟩
  · right
    rw [linRes_no hc]
    exact ⟨hc, chk_bad h1 (by omega) hc⟩
end Go.Proofs.YtihmmmodimionaaDoor.Lx
