/- What the claim leans on, part 1 of 16: Base A0 P A O Q OD TA TP YA TW TYP TX T BT. -/
import Derived.BigQuiet
import Derived.Deep.LoopGhost
import Derived.Deep.QuietTactic
import Derived.Handy
import Derived.Laws.AppendOwnNone
import Derived.Lib.ConvBytes
import Derived.Lib.Index
import Derived.Lib.IndexAny
import Derived.Lib.Join
import Derived.Lib.Strings
import Derived.Shelf.Strings.Repeat
import Derived.WalkKit
import Derived.Test.YtihmmmodimionaaProg
import Derived.Test.YtihmmmodimionaaShelf
/- Small words for walks: regions that draw their order over the class of worlds 'Below'. -/
namespace Go.Proofs.Ytihmmmodimionaa
open Go.RowKit

theorem hide {p : Prop} (h : p) : Hid p := h
theorem ret_int {k : IntKind} {a b : Int} (h : a = b) : Ending.returned (.int k a) = .returned (.int k b) := by rw [h]
theorem ret_bool {a b : Bool} (h : a = b) : Ending.returned (.bool a) = .returned (.bool b) := by rw [h]


/-- Every world that is 'Below w', and no other, is 'lat w x' for some x. -/
noncomputable def lat (w x : World) : World := by classical exact if Below w.heap.size w x then x else w
theorem lat_below (w x : World) : Below w.heap.size w (lat w x) := by
  unfold lat
  split
  · assumption
  · exact Below.refl _ _
theorem lat_of {w x : World} (h : Below w.heap.size w x) : x = lat w x := by
  unfold lat
  rw [if_pos h]
theorem below_wide {w w1 w2 : World} (h : Below w.heap.size w w1) (h2 : Below w1.heap.size w1 w2) : Below w.heap.size w w2 := h.trans (h2.mono h.size)
theorem lat_cell {w : World} {a : Addr} {v : Value} (h : w.cell? a = some v) (x : World) : (lat w x).cell? a = some v := by
  have hb := lat_below w x
  have hlt : a.block < w.heap.size := by
    rcases Nat.lt_or_ge a.block w.heap.size with h1 | h1
    · exact h1
    · exfalso
      unfold World.cell? at h
      split at h <;> simp_all
  rw [hb.cell hlt]; exact h

theorem bne_t {a b : Int} (h : (a != b) = true) : ¬ a = b := by simpa using h
theorem bne_f {a b : Int} (h : (a != b) = false) : a = b := by simpa using h
theorem beq_t {a b : Int} (h : (a == b) = true) : a = b := by simpa using h
theorem beq_f {a b : Int} (h : (a == b) = false) : ¬ a = b := by simpa using h

theorem lt_of_cell {w : World} {a : Addr} {v : Value} (h : w.cell? a = some v) : a.block < w.heap.size := by
  rcases Nat.lt_or_ge a.block w.heap.size with h1 | h1
  · exact h1
  · exfalso
    unfold World.cell? at h
    split at h <;> simp_all
theorem cellB {W w1 : World} {a : Addr} {v : Value} (hb : Below W.heap.size W w1) (h : W.cell? a = some v) : w1.cell? a = some v := by
  rw [hb.cell (lt_of_cell h)]; exact h

theorem wp_region_lat {P : Program} {id : Nat} {Q : Exit → Act → World → Prop} {a : Act} {w : World} {l : List Oper} (hm : P.follows .mixedOrders = true) (hB : Region.lexB .any l.toArray = true)
    (h : wpQuiet P l.toArray (fun w' => ∃ x, w' = lat w x) (fun a' => ∀ w', (∃ x, w' = lat w x) → Q .normal a' w') l a) : (Code.region id l.toArray true).wp P Q a w :=
  wp_region_quiet (C := fun w' => ∃ x, w' = lat w x) hm hB ⟨_, lat_of ((Below.refl _ w).drew)⟩ (by simpa using h)

theorem calls_lat {P : Program} {f : FuncId} {args : Array Value} {w x : World} {v : Value}
    (h : Calls P f args (lat w x) fun e w' => e = .returned v ∧ Below (lat w x).heap.size (lat w x) w') : Calls P f args (lat w x) fun e w'' => e = .returned v ∧ ∃ y, w'' = lat w y :=
  h.mono fun _ _ ⟨he, hb⟩ => ⟨he, _, lat_of (below_wide (lat_below w x) hb)⟩
theorem calls_lat_same {P : Program} {f : FuncId} {args : Array Value} {w x : World} {v : Value}
    (h : Calls P f args (lat w x) fun e w' => e = .returned v ∧ lat w x = w') : Calls P f args (lat w x) fun e w'' => e = .returned v ∧ ∃ y, w'' = lat w y :=
  h.mono fun _ _ ⟨he, hb⟩ => ⟨he, x, hb.symm⟩
/-- A slice (nil let in) that reads as the cells xs. -/
def Src (w : World) (A : Option Addr) (m c size : Nat) (xs : List Value) : Prop :=
  xs.length = m * size ∧ ((A = none ∧ m = 0 ∧ c = 0) ∨ ∃ ad, A = some ad ∧ ∀ j u, xs[j]? = some u → w.cell? (ad.add j) = some u)
theorem Src.below {w w' : World} {A : Option Addr} {m c size : Nat} {xs : List Value} (h : Src w A m c size xs) (hb : Below w.heap.size w w') : Src w' A m c size xs := by
  obtain ⟨h1, h2 | ⟨ad, h2, h3⟩⟩ := h
  · exact ⟨h1, .inl h2⟩
  · exact ⟨h1, .inr ⟨ad, h2, fun j u hu => cellB hb (h3 j u hu)⟩⟩
theorem app_src {P : Program} {w : World} {ops : Array Oper} {rest : List Oper} {o : Oper} {a : Act} {Q : Exit → Act → World → Prop} (hgd : o.guard = none) (s x : Operand) (t : TypeId)
    (ho : o.op = .call { callee := .builtin .append, args := #[s, x], argTypes := #[t, t] })
    (base : Nat) (e : TypeId) (i : TypeInfo) (z : Value) (size bytes : Nat) (ht : P.underlying t = some (.slice e)) (hi : P.info? e = some i) (hz : i.zero = some z)
    (hsize : i.size = size) (hby : i.bytes = bytes) (hzs : z.cells.size = size) (hsz : 0 < size)
    (v : Value) (n : Nat) (xs : List Value) (hs : a.eval s = v) (hown : w.ownsRow base e size v n xs)
    (A : Option Addr) (m c : Nat) (news : List Value) (hx : a.eval x = .slice A m c) (hsrc : Src w A m c size news) (h1 : ∀ u ∈ news, u.oneCell' = true)
    (h63 : n + m ≤ maxLen) (hbytes : (n + m) * bytes ≤ 140737488355328) (hbase : base ≤ w.heap.size)
    (h : ∀ v' w', w'.ownsRow base e size v' (n + m) (xs ++ news) → w.grownBy w' v.ownBlock → wpList P ops Q rest (a.put o.dst v') w') : wpList P ops Q (o :: rest) a w := by
  obtain ⟨hl, ⟨rfl, rfl, rfl⟩ | ⟨ad, rfl, hc⟩⟩ := hsrc
  · have hn : news = [] := List.eq_nil_of_length_eq_zero (by simpa using hl)
    subst hn
    exact wpList_append_own_none hgd s x t ho base e i size ht hi v n xs hs hown hx (h v w (by simpa using hown) (World.grownBy.refl w _))
  · exact wpList_append_own w hgd s x t ho base e i z size bytes ht hi hz hsize hby hzs hsz v n xs hs hown ad m c news hx hl hc h1 h63 hbytes hbase (fun v' w' h2 h3 _ => h v' w' h2 h3)
theorem lt_heap {w : World} {g : Nat} {o : Obj} (h : w.heap[g]? = some o) : g < w.heap.size := by
  rcases Nat.lt_or_ge g w.heap.size with h1 | h1
  · exact h1
  · rw [Array.getElem?_eq_none h1] at h; cases h
theorem heapB {W w1 : World} {g : Nat} {o : Obj} (hb : Below W.heap.size W w1) (h : W.heap[g]? = some o) : w1.heap[g]? = some o := (hb.block g (lt_heap h)).trans h
theorem cell_heap {w : World} {g j : Nat} {cur : Array Value} {t : TypeId} {u : Value} (h : w.heap[g]? = some (.cells cur t (0, 0))) (hj : cur[j]? = some u) : w.cell? ⟨g, j, none⟩ = some u := by
  simp [World.cell?, h, hj]
theorem frozen_heap {w : World} {g j : Nat} {cur : Array Value} {t : TypeId} (h : w.heap[g]? = some (.cells cur t (0, 0))) : w.frozen? ⟨g, j, none⟩ = false := by
  simp [World.frozen?, h]
theorem heap_far {w : World} {g : Nat} {o : Obj} {p : Addr} {u : Value} (h : w.heap[g]? = some o) (hp : g ≠ p.block) : (w.setCell p u).heap[g]? = some o := (Below.heap_setCell w p u g hp).trans h
theorem heap_set {w : World} {g j : Nat} {cur : Array Value} {t : TypeId} {u : Value} (h : w.heap[g]? = some (.cells cur t (0, 0))) : (w.setCell ⟨g, j, none⟩ u).heap[g]? = some (.cells (cur.setIfInBounds j u) t (0, 0)) := by
  simp [World.setCell, Array.getElem?_modify, h]
theorem heap_ne {w : World} {g g' : Nat} {cur cur' : Array Value} {t t' : TypeId} (h : w.heap[g]? = some (.cells cur t (0, 0))) (h' : w.heap[g']? = some (.cells cur' t' (0, 0))) (hne : t ≠ t') : g ≠ g' := by
  rintro rfl
  rw [h] at h'
  injection h' with h'
  injection h' with _ ht
  exact hne ht
theorem bel_one (w : World) (o : Obj) : Below w.heap.size w (w.alloc o) := (Below.refl _ _).alloc (Nat.le_refl _) _
theorem bel_two (w : World) (o o2 : Obj) : Below w.heap.size w ((w.alloc o).alloc o2) := ((Below.refl _ _).alloc (Nat.le_refl _) _).alloc (by simp) _
theorem heap_new (w : World) (o : Obj) : (w.alloc o).heap[w.heap.size]? = some o := heap_alloc_new w o
theorem heap_old {w : World} {g : Nat} {o p : Obj} (h : w.heap[g]? = some o) : (w.alloc p).heap[g]? = some o := (Below.heap_alloc w p g (lt_heap h)).trans h
/-- only row R, and what is new, has turned -/
abbrev Only (R : Nat) (w w' : World) : Prop := w.grownBy w' (some R)
theorem only_refl (R : Nat) (w : World) : Only R w w := World.grownBy.refl w _
theorem only_set {R : Nat} {a w : World} (h : Only R a w) (j : Nat) (u : Value) : Only R a (w.setCell ⟨R, j, none⟩ u) :=
  ⟨h.os, h.tape, h.output, by simpa [World.setCell] using h.size, fun i hi hne => (Below.heap_setCell w ⟨R, j, none⟩ u i (by rintro rfl; exact hne rfl)).trans (h.block i hi hne)⟩
theorem only_heap {R g : Nat} {w w' : World} {o : Obj} (h : Only R w w') (hg : w.heap[g]? = some o) (hne : g ≠ R) : w'.heap[g]? = some o :=
  (h.block g (lt_heap hg) (fun e => hne (by injection e))).trans hg
theorem only_below {R B : Nat} {w w' : World} (h : Only R w w') (hB : B ≤ R) (hs : B ≤ w.heap.size) : Below B w w' :=
  ⟨h.os, h.tape, h.output, h.size, fun k hk => h.block k (by omega) (fun e => by injection e with e; omega)⟩
theorem calls_flip {P : Program} {f : FuncId} {args : Array Value} {w : World} {v : Value} (h : Calls P f args w fun e w' => e = .returned v ∧ w = w') : Calls P f args w fun e w' => e = .returned v ∧ w' = w := h.mono fun _ _ hh => ⟨hh.1, hh.2.symm⟩
end Go.Proofs.Ytihmmmodimionaa
namespace Go.Proofs.Ytihmmmodimionaa.Lx
open Go.RowKit

def T (b : ByteArray) : List UInt8 := b.data.toList
theorem T_len (b : ByteArray) : (T b).length = b.size := by unfold T; exact Array.length_toList
theorem T_get (b : ByteArray) (k : Nat) (h : k < b.size) : (T b)[k]? = some b[k] := by
  unfold T
  rw [Array.getElem?_toList]
  exact Array.getElem?_eq_getElem h
theorem T_drop (b : ByteArray) (k : Nat) (h : k < b.size) : (T b).drop k = b[k] :: (T b).drop (k + 1) := by
  have hl : k < (T b).length := by rw [T_len]; exact h
  rw [List.drop_eq_getElem_cons hl]
  have := T_get b k h
  rw [List.getElem?_eq_getElem hl] at this
  injection this with this
  rw [this]
theorem T_take (b : ByteArray) (k : Nat) (h : k < b.size) : (T b).take (k + 1) = (T b).take k ++ [b[k]] := by
  have hl : k < (T b).length := by rw [T_len]; exact h
  rw [List.take_add_one, T_get b k h]
  rfl
theorem T_extract (b : ByteArray) (i j : Nat) : T (b.extract i j) = ((T b).take j).drop i := by
  unfold T
  rw [ByteArray.data_extract, Array.toList_extract]
  exact List.extract_eq_drop_take'
theorem T_head (b : ByteArray) (n : Nat) : T (b.extract 0 n) = (T b).take n := by rw [T_extract, List.drop_zero]
theorem T_tail (b : ByteArray) (n : Nat) : T (b.extract n b.size) = (T b).drop n := by rw [T_extract, List.take_of_length_le (by rw [T_len]; exact Nat.le_refl _)]
theorem size_T (b : ByteArray) : b.size = (T b).length := (T_len b).symm
theorem u8_eq (x : UInt8) (n : Nat) (h : n < 256) : x = UInt8.ofNat n ↔ x.toNat = n := by
  constructor
  · intro e; rw [e]; simp; omega
  · intro e; rw [← e]; simp
theorem eq10 (x : UInt8) : x = 10 ↔ x.toNat = 10 := u8_eq x 10 (by omega)
theorem beq_it {x n : Int} (h : x = n) : (x == n) = true := by simp [h]
theorem beq_if {x n : Int} (h : ¬ x = n) : (x == n) = false := by simp [h]
theorem heap_new2 (w : World) (o p : Obj) : ((w.alloc o).alloc p).heap[w.heap.size + 1]? = some p := by
  have h := heap_new (w.alloc o) p
  rwa [World.size_alloc] at h
end Go.Proofs.Ytihmmmodimionaa.Lx
/- Plain words on texts: places, the bytes that may stand, the tokens of a text of braces. No program is in sight. -/
namespace Go.Proofs.Ytihmmmodimionaa.Lx
open Go

/-- the place behind some bytes -/
def adv : List UInt8 → Int → Int → Int × Int
  | [], l, c => (l, c)
  | x :: xs, l, c => if x = 10 then adv xs (l + 1) 1 else adv xs l (c + 1)
theorem adv_append : ∀ (a b : List UInt8) (l c : Int), adv (a ++ b) l c = adv b (adv a l c).1 (adv a l c).2 := by
  intro a
  induction a with
  | nil => intro b l c; rfl
  | cons x xs ih =>
    intro b l c
    simp only [List.cons_append, adv]
    split
    · exact ih _ _ _
    · exact ih _ _ _
theorem adv_bd : ∀ (a : List UInt8) (l c : Int), 1 ≤ l → 1 ≤ c → l ≤ (adv a l c).1 ∧ (adv a l c).1 ≤ l + a.length ∧ 1 ≤ (adv a l c).2 ∧ (adv a l c).2 ≤ c + a.length := by
  intro a
  induction a with
  | nil => intro l c _ _; simp [adv]; omega
  | cons x xs ih =>
    intro l c hl hc
    simp only [adv, List.length_cons]
    split
    · have := ih (l + 1) 1 (by omega) (by omega); omega
    · have := ih l (c + 1) (by omega) (by omega); omega
theorem adv_snoc (a : List UInt8) (x : UInt8) (l c : Int) : adv (a ++ [x]) l c = if x = 10 then ((adv a l c).1 + 1, 1) else ((adv a l c).1, (adv a l c).2 + 1) := by
  rw [adv_append]
  simp only [adv]

/-- what lex.check answers: the place, and the error's number -/
def chkL : List UInt8 → Int → Int → Int × Int × Int
  | [], _, _ => (0, 0, 0)
  | x :: xs, l, c => if 4096 < l then (l, c, 3) else if x = 10 then chkL xs (l + 1) 1 else if x.toNat < 32 ∨ 126 < x.toNat then (l, c, 70) else chkL xs l (c + 1)
def chk (s : List UInt8) : Int × Int × Int := if 65536 < s.length then (0, 0, 3) else chkL s 1 1

theorem chkL_ok : ∀ (s : List UInt8) (l c : Int), (chkL s l c).2.2 = 0 → ∀ x ∈ s, x = 10 ∨ (32 ≤ x.toNat ∧ x.toNat ≤ 126) := by
  intro s
  induction s with
  | nil => intro l c _ x hx; cases hx
  | cons y ys ih =>
    intro l c h x hx
    unfold chkL at h
    split at h
    · simp at h
    · split at h
      · rename_i h10
        rcases List.mem_cons.1 hx with rfl | hx
        · exact .inl h10
        · exact ih _ _ h x hx
      · split at h
        · simp at h
        · rename_i hb
          rcases List.mem_cons.1 hx with rfl | hx
          · exact .inr (by omega)
          · exact ih _ _ h x hx
theorem chk_len {s : List UInt8} (h : (chk s).2.2 = 0) : s.length ≤ 65536 := by
  unfold chk at h
  split at h
  · simp at h
  · omega
theorem chk_ok {s : List UInt8} (h : (chk s).2.2 = 0) : ∀ x ∈ s, x = 10 ∨ (32 ≤ x.toNat ∧ x.toNat ≤ 126) := by
  have hl := chk_len h
  unfold chk at h
  rw [if_neg (by omega)] at h
  exact chkL_ok s 1 1 h

/-- how many elements stand ahead of the first suffix that is so -/
def firstN (p : List UInt8 → Bool) : List UInt8 → Nat
  | [] => 0
  | x :: xs => if p (x :: xs) then 0 else firstN p xs + 1
theorem firstN_le (p : List UInt8 → Bool) : ∀ s, firstN p s ≤ s.length := by
  intro s
  induction s with
  | nil => simp [firstN]
  | cons x xs ih =>
    unfold firstN
    split
    · omega
    · simp; exact ih
def is10 (s : List UInt8) : Bool := s.head? == some 10
/-- the bytes that end a word -/
def endB : List UInt8 := [32, 10, 123, 125, 59, 91, 93, 34, 35]
def isEnd : List UInt8 → Bool
  | [] => true
  | x :: xs => decide (0 ≤ Lib.indexByte endB x) || Lib.hasPrefix (x :: xs) [47, 42]
def signs : List UInt8 := [123, 125, 59, 91, 93]

/-- one step of the reader: an error; else how many bytes it takes, and the token, if there is one -/
structure Step where
  err : Bool
  is : Bool
  k : Int
  t : List UInt8
  n : Nat
def step (s : List UInt8) : Step :=
  let x := s.headD 0
  if x = 32 ∨ x = 10 then ⟨false, false, 1, [], 1⟩
  else if x = 35 then ⟨false, false, 1, [], firstN is10 s⟩
  else if Lib.hasPrefix s [47, 42] then
    if Lib.index (s.drop 2) [42, 47] < 0 then ⟨true, false, 1, [], 0⟩ else ⟨false, false, 1, [], (Lib.index (s.drop 2) [42, 47]).toNat + 4⟩
  else if x = 34 then
    if Lib.indexAny (s.drop 1) [34, 10] < 0 ∨ s.getD ((Lib.indexAny (s.drop 1) [34, 10]).toNat + 1) 0 = 10 then ⟨true, false, 1, [], 0⟩
    else ⟨false, true, 1, (s.drop 1).take (Lib.indexAny (s.drop 1) [34, 10]).toNat, (Lib.indexAny (s.drop 1) [34, 10]).toNat + 2⟩
  else if 0 ≤ Lib.indexByte signs x then ⟨false, true, 2 + Lib.indexByte signs x, s.take 1, 1⟩
  else ⟨false, true, 1, s.take (firstN isEnd s), firstN isEnd s⟩
end Go.Proofs.Ytihmmmodimionaa.Lx
namespace Go.Proofs.Ytihmmmodimionaa.Lx
open Go.RowKit

abbrev Pos (l c : Int) : Obj := Obj.cells #[.int .i64 l, .int .i64 c] 24
abbrev PosR (w : World) (g : Nat) (l c : Int) : Prop := w.heap[g]? = some (.cells #[.int .i64 l, .int .i64 c] 24 (0, 0))

set_option maxHeartbeats 1000000 in
theorem check_any (s : ByteArray) (w : World) (hs : s.size ≤ maxLen) :
    Calls Try.prog 28 #[.string s] w fun e w' => e = .returned (.tuple #[.agg #[.int .i64 (chk (T s)).1, .int .i64 (chk (T s)).2.1], .int .i64 (chk (T s)).2.2]) ∧ Below w.heap.size w w' := by
  unfold maxLen at hs
  by_cases h1 : 65536 < s.size
  · have HC : Hid (chk (T s) = (0, 0, 3)) := by show _ = _; unfold chk; rw [T_len, if_pos h1]
    go_enter Try.func28, Try.ntmps28
    go_wp2
    go_returns
    exact ⟨by rw [HC.out], by go_grown⟩
  · have HC : Hid (chk (T s) = chkL (T s) 1 1) := by show _ = _; unfold chk; rw [T_len, if_neg h1]
    go_enter Try.func28, Try.ntmps28
    go_wp2
    go_loopw [13] (fun j wr => ∃ (k : Nat) (l c : Int), k ≤ s.size ∧ j = .int .i64 k ∧ 1 ≤ l ∧ l ≤ k + 1 ∧ 1 ≤ c ∧ c ≤ k + 1 ∧ Below w.heap.size w wr ∧ PosR wr w.heap.size 0 0 ∧ PosR wr (w.heap.size + 1) l c ∧ chkL (T s) 1 1 = chkL ((T s).drop k) l c) (fun j _ => s.size - (intOf j).toNat)
    case atStart =>
      refine ⟨0, 1, 1, Nat.zero_le _, rfl, by omega, by omega, by omega, by omega, by go_grown, ?_, ?_, rfl⟩
      · exact heap_old (heap_new w _)
      · exact heap_new2 w _ _
    case round =>
      obtain ⟨k, l, c, hk, rfl, hl1, hl2, hc1, hc2, hb, hp, hq, hf⟩ := hrel
      have p0 := cell_heap (j := 0) hp rfl
      have p1 := cell_heap (j := 1) hp rfl
      have q0 := cell_heap (j := 0) hq rfl
      have q1 := cell_heap (j := 1) hq rfl
      have fp0 := frozen_heap (j := 0) hp
      have fp1 := frozen_heap (j := 1) hp
      have fq0 := frozen_heap (j := 0) hq
      have fq1 := frozen_heap (j := 1) hq
      have HP := hide hp
      have HQ := hide hq
      have HB := hide hb
      clear hp hq hb
      by_cases hlt : k < s.size
      · have hd : Hid (chkL (T s) 1 1 = if 4096 < l then (l, c, 3) else if s[k] = 10 then chkL ((T s).drop (k + 1)) (l + 1) 1 else if s[k].toNat < 32 ∨ 126 < s[k].toNat then (l, c, 70) else chkL ((T s).drop (k + 1)) l (c + 1)) := by
          show _ = _
          rw [hf, T_drop s k hlt, chkL]
        clear hf
        by_cases h2 : 4096 < l
        · go_wp2
          refine bodyPost_ret (v := .tuple #[.agg #[.int .i64 l, .int .i64 c], .int .i64 3]) (by simp [results, Try.results28, go_sem, p0, p1]) rfl ⟨by rw [HC.out, hd.out, if_pos h2], ?_⟩
          exact (HB.out.setCell (Nat.le_refl _) _).setCell (Nat.le_refl _) _
        · by_cases h3 : s[k] = 10
          · have h3' : ((s[k].toNat : Int) == 10) = true := beq_it (by have := (eq10 _).1 h3; omega)
            rw [if_neg h2, if_pos h3] at hd
            clear h3
            go_wp2
            go_roundw
            case rel =>
              refine ⟨k + 1, l + 1, 1, by omega, by go_num, by omega, by omega, by omega, by omega, ?_, ?_, ?_, hd.out⟩
              · exact (HB.out.setCell (p := ⟨w.heap.size + 1, 0, none⟩) (by simp) _).setCell (p := ⟨w.heap.size + 1, 1, none⟩) (by simp) _
              · exact heap_far (heap_far HP.out (by simp)) (by simp)
              · exact heap_set (heap_set HQ.out)
            case measure => simp [intOf]; omega
          · have h3' : ((s[k].toNat : Int) == 10) = false := beq_if (by intro e; exact h3 ((eq10 _).2 (by omega)))
            by_cases h4 : s[k].toNat < 32 ∨ 126 < s[k].toNat
            · rw [if_neg h2, if_neg h3, if_pos h4] at hd
              clear h3
              by_cases h5 : (s[k].toNat : Int) < 32
              · go_wp2
                refine bodyPost_ret (v := .tuple #[.agg #[.int .i64 l, .int .i64 c], .int .i64 70]) (by simp [results, Try.results28, go_sem, p0, p1]) rfl ⟨by rw [HC.out, hd.out], ?_⟩
                exact (HB.out.setCell (p := ⟨w.heap.size, 0, none⟩) (Nat.le_refl _) _).setCell (p := ⟨w.heap.size, 1, none⟩) (Nat.le_refl _) _
              · have h5' : decide ((s[k].toNat : Int) < 32) = false := by simp; omega
                have h6 : (126 : Int) < (s[k].toNat : Int) := by omega
                go_wp2
                refine bodyPost_ret (v := .tuple #[.agg #[.int .i64 l, .int .i64 c], .int .i64 70]) (by simp [results, Try.results28, go_sem, p0, p1]) rfl ⟨by rw [HC.out, hd.out], ?_⟩
                exact (HB.out.setCell (p := ⟨w.heap.size, 0, none⟩) (Nat.le_refl _) _).setCell (p := ⟨w.heap.size, 1, none⟩) (Nat.le_refl _) _
            · rw [if_neg h2, if_neg h3, if_neg h4] at hd
              have h5' : decide ((s[k].toNat : Int) < 32) = false := by simp; omega
              have h6 : decide ((126 : Int) < (s[k].toNat : Int)) = false := by simp; omega
              clear h3 h4
              go_wp2
              go_roundw
              case rel =>
                refine ⟨k + 1, l, c + 1, by omega, by go_num, by omega, by omega, by omega, by omega, ?_, ?_, ?_, hd.out⟩
                · exact HB.out.setCell (p := ⟨w.heap.size + 1, 1, none⟩) (by simp) _
                · exact heap_far HP.out (by simp)
                · exact heap_set HQ.out
              case measure => simp [intOf]; omega
      · have HF : Hid (chkL (T s) 1 1 = (0, 0, 0)) := by
          show _ = _
          rw [hf, List.drop_eq_nil_of_le (by rw [T_len]; omega)]; rfl
        clear hf
        go_wp2
        refine bodyPost_ret (v := .tuple #[.agg #[.int .i64 0, .int .i64 0], .int .i64 0]) (by simp [results, Try.results28, go_sem, p0, p1]) rfl ⟨by rw [HC.out, HF.out], ?_⟩
        exact (HB.out.setCell (p := ⟨w.heap.size, 0, none⟩) (Nat.le_refl _) _).setCell (p := ⟨w.heap.size, 1, none⟩) (Nat.le_refl _) _
end Go.Proofs.Ytihmmmodimionaa.Lx
/- Rows that the call itself laid: what keeps them. No function of the program is in sight. -/
namespace Go.Proofs.Ytihmmmodimionaa.Lx
open Go.RowKit

theorem own_kept {w w' : World} {base size n : Nat} {e : TypeId} {v : Value} {xs : List Value} {row : Option Nat} (ho : w.ownsRow base e size v n xs) (h : w.grownBy w' row) (hne : ∀ g, row = some g → v.ownBlock ≠ some g) : w'.ownsRow base e size v n xs := by
  refine ho.kept h ?_
  cases hv : v.ownBlock with
  | none => exact .inl rfl
  | some k => right; intro he; exact hne k he.symm hv
theorem below_grown {w w' : World} (h : Below w.heap.size w w') (row : Option Nat) : w.grownBy w' row := ⟨h.os, h.tape, h.output, h.size, fun k hk _ => h.block k hk⟩
theorem own_below {w w' : World} {base size n : Nat} {e : TypeId} {v : Value} {xs : List Value} (ho : w.ownsRow base e size v n xs) (h : Below w.heap.size w w') : w'.ownsRow base e size v n xs := own_kept ho (below_grown h none) (fun g h => by cases h)
/-- two rows of two types lie apart -/
theorem own_types {w : World} {b1 b2 s1 s2 n1 n2 : Nat} {e1 e2 : TypeId} {v1 v2 : Value} {xs ys : List Value} (h1 : w.ownsRow b1 e1 s1 v1 n1 xs) (h2 : w.ownsRow b2 e2 s2 v2 n2 ys) (hne : e1 ≠ e2) (g : Nat) (hg : v1.ownBlock = some g) : v2.ownBlock ≠ some g := by
  intro hg2
  rcases h1.2 with ⟨rfl, _⟩ | ⟨g1, c1, cur1, rfl, _, hh1, _⟩
  · simp [Value.ownBlock] at hg
  · rcases h2.2 with ⟨rfl, _⟩ | ⟨g2, c2, cur2, rfl, _, hh2, _⟩
    · simp [Value.ownBlock] at hg2
    · have e1' : g1 = g := by simpa [Value.ownBlock] using hg
      have e2' : g2 = g := by simpa [Value.ownBlock] using hg2
      subst e1' e2'
      exact heap_ne hh1 hh2 hne rfl
theorem own_ne_row {w : World} {base g : Nat} {e t : TypeId} {size n : Nat} {v : Value} {xs : List Value} {cs : Array Value} (h : w.ownsRow base e size v n xs) (hg : w.heap[g]? = some (.cells cs t (0, 0))) (hne : e ≠ t) : v.ownBlock ≠ some g := by
  rcases h.2 with ⟨rfl, _⟩ | ⟨g', cap, cur, rfl, _, hh, _⟩
  · simp [Value.ownBlock]
  · intro he
    have : g' = g := by simpa [Value.ownBlock] using he
    subst this
    exact heap_ne (t := e) hh hg hne rfl
theorem heap_grown {w w' : World} {row : Option Nat} {g : Nat} {o : Obj} (h : w.heap[g]? = some o) (hb : w.grownBy w' row) (hg : row ≠ some g) : w'.heap[g]? = some o := (hb.block g (lt_heap h) (fun e => hg e.symm)).trans h
theorem own_base {w : World} {b b' size n : Nat} {e : TypeId} {v : Value} {xs : List Value} (h : w.ownsRow b e size v n xs) (hb : b' ≤ b) : w.ownsRow b' e size v n xs := by
  refine ⟨h.1, ?_⟩
  rcases h.2 with h2 | ⟨g, cap, cur, h1, h2, h3⟩
  · exact .inl h2
  · exact .inr ⟨g, cap, cur, h1, Nat.le_trans hb h2, h3⟩
theorem own_one {w : World} {b size n : Nat} {e : TypeId} {v : Value} {xs : List Value} (h : w.ownsRow b e size v n xs) : v.oneCell' = true := by
  rcases h.2 with ⟨rfl, _⟩ | ⟨g, cap, cur, rfl, _⟩ <;> rfl
theorem own_slice {w : World} {b size n : Nat} {e : TypeId} {v : Value} {xs : List Value} (h : w.ownsRow b e size v n xs) : ∃ A c, v = .slice A n c := by
  rcases h.2 with ⟨rfl, rfl⟩ | ⟨g, cap, cur, rfl, _⟩
  · exact ⟨none, 0, rfl⟩
  · exact ⟨_, _, rfl⟩
end Go.Proofs.Ytihmmmodimionaa.Lx
/- Plain words on texts of braces: the tokens of a text. No program is in sight. -/
namespace Go.Proofs.Ytihmmmodimionaa.Lx
open Go

structure Tok where
  k : Int
  t : List UInt8
  l : Int
  c : Int
def appT (d : List Tok) : Except (Int × Int) (List Tok) → Except (Int × Int) (List Tok)
  | .error e => .error e
  | .ok ts => .ok (d ++ ts)
theorem appT_nil (r : Except (Int × Int) (List Tok)) : appT [] r = r := by cases r <;> rfl
theorem appT_app (a b : List Tok) (r : Except (Int × Int) (List Tok)) : appT a (appT b r) = appT (a ++ b) r := by cases r <;> simp [appT]
/-- the tokens of what is left of a text; an error: where -/
def toks : Nat → List UInt8 → Int → Int → Except (Int × Int) (List Tok)
  | 0, _, _, _ => .ok []
  | _ + 1, [], _, _ => .ok []
  | f + 1, x :: xs, l, c =>
    if (step (x :: xs)).err then .error (l, c)
    else appT (if (step (x :: xs)).is then [⟨(step (x :: xs)).k, (step (x :: xs)).t, l, c⟩] else []) (toks f ((x :: xs).drop (step (x :: xs)).n) (adv ((x :: xs).take (step (x :: xs)).n) l c).1 (adv ((x :: xs).take (step (x :: xs)).n) l c).2)
theorem toks_nil (f : Nat) (l c : Int) : toks f [] l c = .ok [] := by cases f <;> rfl
theorem toks_step (f : Nat) (s : List UInt8) (l c : Int) (h : s ≠ []) : toks (f + 1) s l c = if (step s).err then .error (l, c)
    else appT (if (step s).is then [⟨(step s).k, (step s).t, l, c⟩] else []) (toks f (s.drop (step s).n) (adv (s.take (step s).n) l c).1 (adv (s.take (step s).n) l c).2) := by
  obtain ⟨x, xs, rfl⟩ := List.exists_cons_of_ne_nil h
  rfl
/-- what lex.Tokens answers -/
def tokRes (s : List UInt8) : List Tok × Int × Int × Int :=
  if (chk s).2.2 = 0 then
    match toks s.length s 1 1 with
    | .error e => ([], e.1, e.2, 71)
    | .ok ts => (ts, 0, 0, 0)
  else ([], chk s)
theorem tokRes_err {s : List UInt8} {l c : Int} (hc : (chk s).2.2 = 0) (h : toks s.length s 1 1 = .error (l, c)) : tokRes s = ([], l, c, 71) := by
  unfold tokRes
  rw [if_pos hc, h]
theorem tokRes_ok {s : List UInt8} {ts : List Tok} (hc : (chk s).2.2 = 0) (h : toks s.length s 1 1 = .ok ts) : tokRes s = (ts, 0, 0, 0) := by
  unfold tokRes
  rw [if_pos hc, h]
theorem tokRes_no {s : List UInt8} (hc : ¬ (chk s).2.2 = 0) : tokRes s = ([], chk s) := by
  unfold tokRes
  rw [if_neg hc]
theorem toks_err {r : Except (Int × Int) (List Tok)} {d : List Tok} {f : Nat} {s : List UInt8} {l c : Int} (hf : s.length ≤ f) (hn : s ≠ []) (h : r = appT d (toks f s l c)) (he : (step s).err = true) : r = .error (l, c) := by
  obtain ⟨x, xs, rfl⟩ := List.exists_cons_of_ne_nil hn
  obtain ⟨f', rfl⟩ : ∃ f', f = f' + 1 := ⟨f - 1, by simp at hf; omega⟩
  rw [h, toks_step _ _ _ _ hn, if_pos he]
  rfl
theorem toks_more {r : Except (Int × Int) (List Tok)} {d : List Tok} {f : Nat} {s : List UInt8} {l c : Int} (hf : s.length ≤ f) (hn : s ≠ []) (h : r = appT d (toks f s l c)) (he : (step s).err = false) (h1 : 1 ≤ (step s).n) :
    ∃ f', (s.drop (step s).n).length ≤ f' ∧ r = appT (d ++ (if (step s).is then [⟨(step s).k, (step s).t, l, c⟩] else [])) (toks f' (s.drop (step s).n) (adv (s.take (step s).n) l c).1 (adv (s.take (step s).n) l c).2) := by
  obtain ⟨x, xs, rfl⟩ := List.exists_cons_of_ne_nil hn
  obtain ⟨f', rfl⟩ : ∃ f', f = f' + 1 := ⟨f - 1, by simp at hf; omega⟩
  refine ⟨f', by rw [List.length_drop]; simp only [List.length_cons] at hf ⊢; omega, ?_⟩
  rw [h, toks_step _ _ _ _ hn, if_neg (by rw [he]; decide), appT_app]
end Go.Proofs.Ytihmmmodimionaa.Lx
/- What lex.Tokens hands back, as a word on memory. -/
namespace Go.Proofs.Ytihmmmodimionaa.Lx
open Go.RowKit

theorem infoTok : (Try.prog.info? 34).map (fun i => (i.zero, i.size, i.bytes)) = some (some (.agg #[.int .u8 0, .string { data := #[] }, .int .i64 0, .int .i64 0]), 4, 40) := by kernel_rfl

structure BTok where
  k : Int
  b : ByteArray
  l : Int
  c : Int
def BTok.tok (x : BTok) : Tok := ⟨x.k, T x.b, x.l, x.c⟩
def BTok.cells (x : BTok) : List Value := [.int .u8 x.k, .string x.b, .int .i64 x.l, .int .i64 x.c]
theorem flat_len (bs : List BTok) : (bs.flatMap BTok.cells).length = bs.length * 4 := by
  induction bs with
  | nil => rfl
  | cons x xs ih => simp [List.flatMap_cons, BTok.cells, ih]; omega

/-- what lex.Tokens hands back: the tokens in a row of its own, the place and the error -/
def TokOut (ts : List Tok) (p : Int × Int × Int) (w : World) (e : Ending) (w' : World) : Prop :=
  ∃ (v : Value) (bs : List BTok), bs.map BTok.tok = ts ∧ e = .returned (.tuple #[v, .agg #[.int .i64 p.1, .int .i64 p.2.1], .int .i64 p.2.2]) ∧ w'.ownsRow w.heap.size 34 4 v bs.length (bs.flatMap BTok.cells) ∧ Below w.heap.size w w' ∧ bs.length ≤ 65536
end Go.Proofs.Ytihmmmodimionaa.Lx
/- Statements of braces in plain words: forests; what a row of tokens reads as; how a forest lies in memory. -/
namespace Go.Proofs.Ytihmmmodimionaa.Lx
def BTok.pos (x : BTok) : Int × Int := (x.l, x.c)
end Go.Proofs.Ytihmmmodimionaa.Lx
namespace Go.Proofs.Ytihmmmodimionaa.Tr
open Go.RowKit Go.Proofs.Ytihmmmodimionaa Go.Proofs.Ytihmmmodimionaa.Lx

/-- statements: the first one's words, places, whether it opens a block, what stands in it; the others -/
inductive Fo where
  | nil : Fo
  | cons (ws : List ByteArray) (ps : List (Int × Int)) (blk : Bool) (kids rest : Fo) : Fo
def Fo.len : Fo → Nat
  | .nil => 0
  | .cons _ _ _ _ r => r.len + 1
def Fo.app : Fo → Fo → Fo
  | .nil, G => G
  | .cons ws ps b k r, G => .cons ws ps b k (r.app G)
theorem Fo.app_nil : ∀ F : Fo, F.app .nil = F
  | .nil => rfl
  | .cons _ _ _ _ r => by rw [Fo.app, Fo.app_nil r]
theorem Fo.app_assoc : ∀ F G H : Fo, (F.app G).app H = F.app (G.app H)
  | .nil, _, _ => rfl
  | .cons _ _ _ _ r, G, H => by rw [Fo.app, Fo.app, Fo.app, Fo.app_assoc r]
theorem Fo.len_app : ∀ F G : Fo, (F.app G).len = F.len + G.len
  | .nil, G => by simp [Fo.app, Fo.len]
  | .cons _ _ _ _ r, G => by rw [Fo.app, Fo.len, Fo.len, Fo.len_app r]; omega
theorem Fo.len_nil {F : Fo} (h : F.len = 0) : F = .nil := by cases F <;> simp_all [Fo.len]

/-! ### reading -/
def wordsT : List BTok → List BTok
  | [] => []
  | t :: ts => if t.k = 1 then t :: wordsT ts else []
def behindT : List BTok → List BTok
  | [] => []
  | t :: ts => if t.k = 1 then behindT ts else t :: ts
theorem words_behind : ∀ ts : List BTok, wordsT ts ++ behindT ts = ts
  | [] => rfl
  | t :: ts => by
    unfold wordsT behindT
    split
    · rw [List.cons_append, words_behind ts]
    · rfl
theorem behind_le (ts : List BTok) : (behindT ts).length ≤ ts.length := by
  have := congrArg List.length (words_behind ts)
  simp at this
  omega
theorem wordsT_k : ∀ (ts : List BTok), ∀ t ∈ wordsT ts, t.k = 1
  | [], t, h => by cases h
  | x :: xs, t, h => by
    unfold wordsT at h
    split at h
    · rcases List.mem_cons.1 h with e | e
      · rw [e]; assumption
      · exact wordsT_k xs t e
    · cases h
/-- leaves out of a statement with signs -/
def leafs (n : List BTok) : List BTok → Fo
  | [] => .nil
  | x :: xs => .cons (n.map BTok.b ++ [x.b]) (n.map BTok.pos ++ [x.pos]) false .nil (leafs n xs)
theorem leafs_len (n : List BTok) : ∀ l : List BTok, (leafs n l).len = l.length
  | [] => rfl
  | _ :: xs => by rw [leafs, Fo.len, leafs_len n xs]; rfl
theorem leafs_app (n : List BTok) : ∀ a b : List BTok, leafs n (a ++ b) = (leafs n a).app (leafs n b)
  | [], _ => rfl
  | x :: xs, b => by rw [List.cons_append, leafs, leafs, Fo.app, leafs_app n xs b]
inductive PR where
  | ok (F : Fo) (rest : List BTok) : PR
  | err (e l c : Int) : PR
/-- the end of a statement of the words n (or of the leaves 'all') -/
def tailS (rec : Int × Int → List BTok → PR) (deep : Nat) (first : Int × Int) (n : List BTok) (all : Fo) : List BTok → PR
  | [] => .err 71 first.1 first.2
  | t :: ts =>
    if t.k = 4 then .ok (if all.len = 0 then .cons (n.map BTok.b) (n.map BTok.pos) false .nil .nil else all) ts
    else if t.k = 2 ∧ all.len = 0 then
      if deep = 32 then .err 140 t.l t.c
      else match rec t.pos ts with
        | .ok K r => .ok (.cons (n.map BTok.b) (n.map BTok.pos) true K .nil) r
        | .err e l c => .err e l c
    else .err 130 t.l t.c
def stmtF (rec : Int × Int → List BTok → PR) (deep : Nat) (first : Int × Int) (toks : List BTok) : PR :=
  match behindT toks with
  | [] => .err 71 first.1 first.2
  | t :: ts =>
    if t.k = 5 then
      match behindT ts with
      | [] => .err 71 first.1 first.2
      | u :: us => if u.k = 6 ∧ (wordsT ts).length ≠ 0 then tailS rec deep first (wordsT toks) (leafs (wordsT toks) (wordsT ts)) us else .err 130 u.l u.c
    else tailS rec deep first (wordsT toks) .nil (t :: ts)
def putF (F : Fo) : PR → PR
  | .ok G r => .ok (F.app G) r
  | .err e l c => .err e l c
def listF : Nat → Nat → Int × Int → List BTok → PR
  | 0, _, _, _ => .err 0 0 0
  | _ + 1, deep, op, [] => if deep = 0 then .ok .nil [] else .err 71 op.1 op.2
  | f + 1, deep, op, t :: ts =>
    if t.k = 3 then if deep = 0 then .err 130 t.l t.c else .ok .nil ts
    else if t.k = 1 then
      match stmtF (fun o r => listF f (deep + 1) o r) deep t.pos (t :: ts) with
      | .ok F r => putF F (listF f deep op r)
      | .err e l c => .err e l c
    else .err 130 t.l t.c
theorem putF_nil (r : PR) : putF .nil r = r := by cases r <;> rfl
theorem putF_put (F G : Fo) (r : PR) : putF F (putF G r) = putF (F.app G) r := by cases r <;> simp [putF, Fo.app_assoc]

/-! ### in memory -/
def StrV (w : World) (B : Nat → Prop) (v : Value) (ws : List ByteArray) : Prop :=
  ∃ A c, v = .slice A ws.length c ∧ Src w A ws.length c 1 (ws.map Value.string) ∧ ∀ a, A = some a → B a.block ∧ ws.length ≤ c
def posC (ps : List (Int × Int)) : List Value := ps.flatMap fun p => [.int .i64 p.1, .int .i64 p.2]
def PosV (w : World) (B : Nat → Prop) (v : Value) (ps : List (Int × Int)) : Prop :=
  ∃ A c, v = .slice A ps.length c ∧ Src w A ps.length c 2 (posC ps) ∧ ∀ a, A = some a → B a.block
def FoV (w : World) (B : Nat → Prop) : Fo → List Value → Prop
  | .nil, xs => xs = []
  | .cons ws ps blk kids rest, xs => ∃ vw vp A c ys xs', xs = vw :: vp :: .bool blk :: .slice A kids.len c :: xs' ∧ StrV w B vw ws ∧ PosV w B vp ps ∧ Src w A kids.len c 4 ys ∧ (∀ a, A = some a → B a.block) ∧ FoV w B kids ys ∧ FoV w B rest xs'
theorem posC_len (ps : List (Int × Int)) : (posC ps).length = ps.length * 2 := by
  induction ps with
  | nil => rfl
  | cons p ps ih => unfold posC at *; simp [List.flatMap_cons, ih]; omega
theorem posC_app (a b : List (Int × Int)) : posC (a ++ b) = posC a ++ posC b := by simp [posC]
theorem cell_block {w w' : World} {a : Addr} (h : w'.heap[a.block]? = w.heap[a.block]?) : w'.cell? a = w.cell? a := by
  unfold World.cell?
  rw [h]
theorem add_block (a : Addr) (j : Nat) : (a.add j).block = a.block := by
  cases j <;> rfl
theorem src_keep {w w' : World} {A : Option Addr} {m c size : Nat} {xs : List Value} (h : Src w A m c size xs) (hb : ∀ a, A = some a → w'.heap[a.block]? = w.heap[a.block]?) : Src w' A m c size xs := by
  obtain ⟨h1, h2 | ⟨ad, h2, h3⟩⟩ := h
  · exact ⟨h1, .inl h2⟩
  · refine ⟨h1, .inr ⟨ad, h2, fun j u hu => ?_⟩⟩
    rw [cell_block (w := w) (by rw [add_block]; exact hb ad h2)]
    exact h3 j u hu
section
variable {w w' : World} {B B' : Nat → Prop}
theorem StrV.keep {v : Value} {ws : List ByteArray} (h : StrV w B v ws) (hb : ∀ b, B b → w'.heap[b]? = w.heap[b]?) : StrV w' B v ws := by
  obtain ⟨A, c, e, hs, hB⟩ := h
  exact ⟨A, c, e, src_keep hs (fun a ha => hb _ (hB a ha).1), hB⟩
theorem PosV.keep {v : Value} {ps : List (Int × Int)} (h : PosV w B v ps) (hb : ∀ b, B b → w'.heap[b]? = w.heap[b]?) : PosV w' B v ps := by
  obtain ⟨A, c, e, hs, hB⟩ := h
  exact ⟨A, c, e, src_keep hs (fun a ha => hb _ (hB a ha)), hB⟩
theorem StrV.mono {v : Value} {ws : List ByteArray} (h : StrV w B v ws) (hb : ∀ b, B b → B' b) : StrV w B' v ws := by
  obtain ⟨A, c, e, hs, hB⟩ := h
  exact ⟨A, c, e, hs, fun a ha => ⟨hb _ (hB a ha).1, (hB a ha).2⟩⟩
theorem PosV.mono {v : Value} {ps : List (Int × Int)} (h : PosV w B v ps) (hb : ∀ b, B b → B' b) : PosV w B' v ps := by
  obtain ⟨A, c, e, hs, hB⟩ := h
  exact ⟨A, c, e, hs, fun a ha => hb _ (hB a ha)⟩
theorem FoV.keep : ∀ {F : Fo} {xs : List Value}, FoV w B F xs → (∀ b, B b → w'.heap[b]? = w.heap[b]?) → FoV w' B F xs
  | .nil, _, h, _ => h
  | .cons ws ps blk kids rest, xs, h, hb => by
    obtain ⟨vw, vp, A, c, ys, xs', e, h1, h2, h3, h4, h5, h6⟩ := h
    exact ⟨vw, vp, A, c, ys, xs', e, h1.keep hb, h2.keep hb, src_keep h3 (fun a ha => hb _ (h4 a ha)), h4, FoV.keep h5 hb, FoV.keep h6 hb⟩
theorem FoV.mono : ∀ {F : Fo} {xs : List Value}, FoV w B F xs → (∀ b, B b → B' b) → FoV w B' F xs
  | .nil, _, h, _ => h
  | .cons ws ps blk kids rest, xs, h, hb => by
    obtain ⟨vw, vp, A, c, ys, xs', e, h1, h2, h3, h4, h5, h6⟩ := h
    exact ⟨vw, vp, A, c, ys, xs', e, h1.mono hb, h2.mono hb, h3, fun a ha => hb _ (h4 a ha), FoV.mono h5 hb, FoV.mono h6 hb⟩
theorem FoV.len : ∀ {F : Fo} {xs : List Value}, FoV w B F xs → xs.length = F.len * 4
  | .nil, _, h => by rw [show _ = [] from h]; rfl
  | .cons ws ps blk kids rest, xs, h => by
    obtain ⟨vw, vp, A, c, ys, xs', e, h1, h2, h3, h4, h5, h6⟩ := h
    have := FoV.len h6
    rw [e, Fo.len]
    simp only [List.length_cons]
    omega
theorem FoV.app : ∀ {F : Fo} {G : Fo} {xs ys : List Value}, FoV w B F xs → FoV w B G ys → FoV w B (F.app G) (xs ++ ys)
  | .nil, _, _, _, h, h' => by rw [show _ = [] from h]; exact h'
  | .cons ws ps blk kids rest, G, xs, ys, h, h' => by
    obtain ⟨vw, vp, A, c, zs, xs', e, h1, h2, h3, h4, h5, h6⟩ := h
    exact ⟨vw, vp, A, c, zs, xs' ++ ys, by rw [e]; rfl, h1, h2, h3, h4, h5, FoV.app h6 h'⟩
theorem FoV.one : ∀ {F : Fo} {xs : List Value}, FoV w B F xs → ∀ u ∈ xs, u.oneCell' = true
  | .nil, _, h, u, hu => by rw [show _ = [] from h] at hu; cases hu
  | .cons ws ps blk kids rest, xs, h, u, hu => by
    obtain ⟨vw, vp, A, c, zs, xs', e, h1, h2, h3, h4, h5, h6⟩ := h
    obtain ⟨_, _, e1, _⟩ := h1
    obtain ⟨_, _, e2, _⟩ := h2
    rw [e] at hu
    rcases List.mem_cons.1 hu with r | hu
    · rw [r, e1]; rfl
    rcases List.mem_cons.1 hu with r | hu
    · rw [r, e2]; rfl
    rcases List.mem_cons.1 hu with r | hu
    · rw [r]; rfl
    rcases List.mem_cons.1 hu with r | hu
    · rw [r]; rfl
    · exact FoV.one h6 u hu
end
/-- a row of tokens -/
abbrev TokS (w : World) (A : Option Addr) (c : Nat) (ts : List BTok) : Prop := Src w A ts.length c 4 (ts.flatMap BTok.cells)
/-- the reader's block: what is left, the first error and its place -/
structure RdX (w : World) (p : Nat) (A : Option Addr) (cap : Nat) (ts : List BTok) (e l c : Int) : Prop where
  h : w.heap[p]? = some (.cells #[.slice A ts.length cap, .int .i64 e, .int .i64 l, .int .i64 c] 79 (0, 0))
  t : TokS w A cap ts
  lt : ∀ a, A = some a → a.block < p
  cp : ts.length ≤ cap
  cm : cap ≤ maxLen
  kz : ∀ t ∈ ts, t.k ≠ 0
end Go.Proofs.Ytihmmmodimionaa.Tr
/- What the document's reading answers, and that it is the reading's own; in plain words, no program is in sight. -/
namespace Go.Proofs.Ytihmmmodimionaa.Tr
open Go.RowKit Go.Proofs.Ytihmmmodimionaa Go.Proofs.Ytihmmmodimionaa.Lx

structure RowD where
  deep : Nat
  ws : List ByteArray
  ps : List (Int × Int)
  op : Bool
/-- statements as rows -/
def rowsF : Nat → Fo → List RowD
  | _, .nil => []
  | d, .cons ws ps b K R => ⟨d, ws, ps, b⟩ :: (rowsF (d + 1) K ++ rowsF d R)
theorem rowsF_app (d : Nat) : ∀ F G : Fo, rowsF d (F.app G) = rowsF d F ++ rowsF d G
  | .nil, _ => rfl
  | .cons ws ps b K R, G => by rw [Fo.app, rowsF, rowsF, rowsF_app d R]; simp
abbrev Pl := Int × Int
inductive RR where
  | ok (rows : List RowD) (br : List Pl) (rest : List BTok) : RR
  | err (e l c : Int) : RR
def leafR (d : Nat) (n : List BTok) : List BTok → List RowD
  | [] => []
  | x :: xs => ⟨d, n.map BTok.b ++ [x.b], n.map BTok.pos ++ [x.pos], false⟩ :: leafR d n xs
theorem leafR_rows (d : Nat) (n : List BTok) : ∀ l : List BTok, rowsF d (leafs n l) = leafR d n l
  | [] => rfl
  | x :: xs => by rw [leafs, rowsF, leafR, leafR_rows d n xs]; simp [rowsF]
theorem leafR_len (d : Nat) (n : List BTok) : ∀ l : List BTok, (leafR d n l).length = l.length
  | [] => rfl
  | _ :: xs => by rw [leafR, List.length_cons, leafR_len d n xs]; rfl
def endR (rows : List RowD) (br : List Pl) (first : Pl) (n : List BTok) (all : List RowD) : List BTok → RR
  | [] => .err 71 first.1 first.2
  | t :: ts =>
    if t.k = 4 then .ok (rows ++ (if all.length = 0 then [⟨br.length, n.map BTok.b, n.map BTok.pos, false⟩] else all)) br ts
    else if t.k = 2 ∧ all.length = 0 then
      if 32 ≤ br.length then .err 140 t.l t.c
      else .ok (rows ++ [⟨br.length, n.map BTok.b, n.map BTok.pos, true⟩]) (t.pos :: br) ts
    else .err 130 t.l t.c
def oneR (rows : List RowD) (br : List Pl) (first : Pl) (toks : List BTok) : RR :=
  match behindT toks with
  | [] => .err 71 first.1 first.2
  | t :: ts =>
    if t.k = 5 then
      match behindT ts with
      | [] => .err 71 first.1 first.2
      | u :: us => if u.k = 6 ∧ (wordsT ts).length ≠ 0 then endR rows br first (wordsT toks) (leafR br.length (wordsT toks) (wordsT ts)) us else .err 130 u.l u.c
    else endR rows br first (wordsT toks) [] (t :: ts)
def refR : Nat → List RowD → List Pl → List BTok → RR
  | 0, _, _, _ => .err 0 0 0
  | _ + 1, rows, br, [] => match br with
    | [] => .ok rows [] []
    | o :: _ => .err 71 o.1 o.2
  | f + 1, rows, br, t :: ts =>
    if t.k = 1 then
      match oneR rows br t.pos (t :: ts) with
      | .ok rows' br' r => refR f rows' br' r
      | .err e l c => .err e l c
    else if t.k = 3 ∧ br ≠ [] then refR f rows br.tail ts
    else .err 130 t.l t.c
theorem endR_rest {rows : List RowD} {br : List Pl} {first : Pl} {n : List BTok} {all : List RowD} {toks : List BTok} {rows' : List RowD} {br' : List Pl} {r : List BTok} (h : endR rows br first n all toks = .ok rows' br' r) : r.length < toks.length := by
  cases toks with
  | nil => cases h
  | cons t ts =>
    rw [endR] at h
    by_cases k4 : t.k = 4
    · rw [if_pos k4] at h
      cases h
      simp
    · rw [if_neg k4] at h
      by_cases k2 : t.k = 2 ∧ all.length = 0
      · rw [if_pos k2] at h
        by_cases hd : 32 ≤ br.length
        · rw [if_pos hd] at h; cases h
        · rw [if_neg hd] at h; cases h; simp
      · rw [if_neg k2] at h; cases h
theorem behind_one {t : BTok} {ts : List BTok} (h : t.k = 1) : behindT (t :: ts) = behindT ts := by rw [behindT, if_pos h]
theorem oneR_rest {rows : List RowD} {br : List Pl} {first : Pl} {toks : List BTok} {rows' : List RowD} {br' : List Pl} {r : List BTok} (h : oneR rows br first toks = .ok rows' br' r) : r.length < toks.length := by
  have hb := behind_le toks
  unfold oneR at h
  split at h
  · cases h
  · rename_i t ts e
    rw [e] at hb
    split at h
    · have hb2 := behind_le ts
      split at h
      · cases h
      · rename_i u us e2
        rw [e2] at hb2
        split at h
        · have := endR_rest h
          simp at hb hb2
          omega
        · cases h
    · have := endR_rest h
      omega
/-- enough fuel is enough -/
theorem refR_fuel : ∀ (f f' : Nat) (rows : List RowD) (br : List Pl) (toks : List BTok), toks.length < f → toks.length < f' → refR f rows br toks = refR f' rows br toks := by
  intro f
  induction f with
  | zero => intro f' rows br toks h; omega
  | succ f ih =>
    intro f' rows br toks h h'
    obtain ⟨g, rfl⟩ : ∃ g, f' = g + 1 := ⟨f' - 1, by omega⟩
    cases toks with
    | nil => rfl
    | cons t ts =>
      simp only [List.length_cons] at h h'
      unfold refR
      split
      · cases ho : oneR rows br t.pos (t :: ts) with
        | err e l c => rfl
        | ok rows' br' r =>
          have := oneR_rest ho
          simp only [List.length_cons] at this
          exact ih g rows' br' r (by omega) (by omega)
      · split
        · exact ih g rows br.tail ts (by omega) (by omega)
        · rfl
theorem tailS_rest {rec : Pl → List BTok → PR} {deep : Nat} {first : Pl} {n : List BTok} {all : Fo} {toks : List BTok} {F : Fo} {r : List BTok} (hr : ∀ o ts K q, rec o ts = .ok K q → q.length ≤ ts.length) (h : tailS rec deep first n all toks = .ok F r) : r.length < toks.length := by
  cases toks with
  | nil => cases h
  | cons t ts =>
    rw [tailS] at h
    by_cases k4 : t.k = 4
    · rw [if_pos k4] at h
      injection h with _ h
      rw [← h]
      simp
    · rw [if_neg k4] at h
      by_cases k2 : t.k = 2 ∧ all.len = 0
      · rw [if_pos k2] at h
        by_cases hd : deep = 32
        · rw [if_pos hd] at h; cases h
        · rw [if_neg hd] at h
          cases e : rec t.pos ts with
          | err e' l c => rw [e] at h; cases h
          | ok K q =>
            rw [e] at h
            cases h
            have := hr _ _ _ _ e
            simp; omega
      · rw [if_neg k2] at h; cases h
theorem stmtF_rest {rec : Pl → List BTok → PR} {deep : Nat} {first : Pl} {toks : List BTok} {F : Fo} {r : List BTok} (hr : ∀ o ts K q, rec o ts = .ok K q → q.length ≤ ts.length) (h : stmtF rec deep first toks = .ok F r) : r.length < toks.length := by
  have hb := behind_le toks
  unfold stmtF at h
  split at h
  · cases h
  · rename_i t ts e
    rw [e] at hb
    split at h
    · have hb2 := behind_le ts
      split at h
      · cases h
      · rename_i u us e2
        rw [e2] at hb2
        split at h
        · have := tailS_rest hr h
          simp at hb hb2
          omega
        · cases h
    · have := tailS_rest hr h
      omega
theorem listF_rest : ∀ (f deep : Nat) (op : Pl) (toks : List BTok) (F : Fo) (r : List BTok), listF f deep op toks = .ok F r → r.length ≤ toks.length := by
  intro f
  induction f with
  | zero => intro deep op toks F r h; cases h
  | succ f ih =>
    intro deep op toks F r h
    cases toks with
    | nil =>
      unfold listF at h
      split at h
      · cases h; simp
      · cases h
    | cons t ts =>
      unfold listF at h
      split at h
      · split at h
        · cases h
        · cases h; simp
      · split at h
        · split at h
          · rename_i G q e
            have h1 := stmtF_rest (fun o ts K q h => ih _ _ _ _ _ h) e
            cases h2 : listF f deep op q with
            | err e l c => rw [h2] at h; cases h
            | ok H q' =>
              rw [h2] at h
              cases h
              have := ih _ _ _ _ _ h2
              omega
          · cases h
        · cases h
/-- one statement: by its reading, and by the document's -/
theorem stmt_ref {f : Nat} {rows : List RowD} {br : List Pl} {first : Pl} {toks : List BTok} {rec : Pl → List BTok → PR} (hrec : br.length < 32 → ∀ (o : Pl) (ts : List BTok) (rows : List RowD), ts.length < toks.length → match rec o ts with
      | .err e l c => refR (ts.length + 1) rows (o :: br) ts = .err e l c
      | .ok K r => refR (ts.length + 1) rows (o :: br) ts = refR (ts.length + 1) (rows ++ rowsF (br.length + 1) K) br r ∧ r.length < ts.length) (hbr : br.length ≤ 32) (hf : toks.length ≤ f) :
    (match oneR rows br first toks with
      | .ok rows' br' r => refR f rows' br' r
      | .err e l c => .err e l c) = (match stmtF rec br.length first toks with
      | .ok F r => refR f (rows ++ rowsF br.length F) br r
      | .err e l c => .err e l c) := by
  have key : ∀ (n : List BTok) (all : Fo) (allR : List RowD) (ts : List BTok), rowsF br.length all = allR → allR.length = all.len → ts.length ≤ toks.length →
      (match endR rows br first n allR ts with
        | .ok rows' br' r => refR f rows' br' r
        | .err e l c => .err e l c) = (match tailS rec br.length first n all ts with
        | .ok F r => refR f (rows ++ rowsF br.length F) br r
        | .err e l c => .err e l c) := by
    intro n all allR ts h1 h2 h3
    cases ts with
    | nil => rfl
    | cons t ts =>
      simp only [List.length_cons] at h3
      rw [endR, tailS, h2]
      by_cases k4 : t.k = 4
      · rw [if_pos k4, if_pos k4]
        by_cases h0 : all.len = 0
        · rw [if_pos h0, if_pos h0]
          simp [rowsF]
        · rw [if_neg h0, if_neg h0]
          show refR f (rows ++ allR) br ts = refR f (rows ++ rowsF br.length all) br ts
          rw [h1]
      · rw [if_neg k4, if_neg k4]
        by_cases k2 : t.k = 2 ∧ all.len = 0
        · rw [if_pos k2, if_pos k2]
          by_cases hd : br.length = 32
          · rw [if_pos (by omega), if_pos hd]
          · rw [if_neg (by omega), if_neg hd]
            have h := hrec (by omega) t.pos ts (rows ++ [⟨br.length, n.map BTok.b, n.map BTok.pos, true⟩]) (by omega)
            simp only
            rw [refR_fuel f (ts.length + 1) _ _ ts (by omega) (by omega)]
            cases hr : rec t.pos ts with
            | err e l c =>
              rw [hr] at h
              exact h
            | ok K r =>
              rw [hr] at h
              simp only at h ⊢
              rw [h.1, refR_fuel (ts.length + 1) f _ _ r (by omega) (by omega)]
              simp [rowsF, List.append_assoc]
        · rw [if_neg k2, if_neg k2]
  have hb := behind_le toks
  unfold oneR stmtF
  cases e : behindT toks with
  | nil => rfl
  | cons t ts =>
    rw [e] at hb
    simp only
    by_cases k5 : t.k = 5
    · rw [if_pos k5, if_pos k5]
      have hb2 := behind_le ts
      cases e2 : behindT ts with
      | nil => rfl
      | cons u us =>
        rw [e2] at hb2
        simp only
        by_cases k6 : u.k = 6 ∧ (wordsT ts).length ≠ 0
        · rw [if_pos k6, if_pos k6]
          exact key _ _ _ us (leafR_rows _ _ _) (by rw [leafR_len, leafs_len]) (by simp at hb hb2; omega)
        · rw [if_neg k6, if_neg k6]
    · rw [if_neg k5, if_neg k5]
      exact key _ _ _ (t :: ts) rfl rfl (by omega)
/-- a list: by its reading, and by the document's -/
theorem list_ref : ∀ (f : Nat) (op : Pl) (rows : List RowD) (br : List Pl) (toks : List BTok), toks.length < f → (br = [] ∨ ∃ b, br = op :: b) → br.length ≤ 32 →
    match listF f br.length op toks with
    | .err e l c => refR (toks.length + 1) rows br toks = .err e l c
    | .ok F r => (br = [] → r = [] ∧ refR (toks.length + 1) rows br toks = .ok (rows ++ rowsF br.length F) [] []) ∧ (br ≠ [] → r.length < toks.length ∧ refR (toks.length + 1) rows br toks = refR (toks.length + 1) (rows ++ rowsF br.length F) br.tail r) := by
  intro f
  induction f with
  | zero => intro op rows br toks h; omega
  | succ f ih =>
    intro op rows br toks h hop hbr
    cases toks with
    | nil =>
      unfold listF
      rcases hop with rfl | ⟨b, rfl⟩
      · simp [refR, rowsF]
      · simp [refR]
    | cons t ts =>
      simp only [List.length_cons] at h
      unfold listF
      by_cases k3 : t.k = 3
      · rw [if_pos k3]
        rcases hop with rfl | ⟨b, rfl⟩
        · simp [refR, k3]
        · simp only [List.length_cons, Nat.add_eq_zero_iff, Nat.succ_ne_self, and_false, if_false]
          refine ⟨fun h => absurd h (by simp), fun _ => ⟨by simp, ?_⟩⟩
          conv => lhs; unfold refR
          rw [if_neg (by rw [k3]; decide), if_pos ⟨k3, by simp⟩]
          simp only [rowsF, List.append_nil, List.tail_cons]
          exact refR_fuel _ _ _ _ _ (by omega) (by omega)
      · rw [if_neg k3]
        by_cases k1 : t.k = 1
        · rw [if_pos k1]
          have hs := stmt_ref (f := ts.length + 1) (rows := rows) (br := br) (first := t.pos) (toks := t :: ts) (rec := fun o r => listF f (br.length + 1) o r) (fun h32 o ts' rows' hl => by
            simp only [List.length_cons] at hl
            have := ih o rows' (o :: br) ts' (by omega) (.inr ⟨br, rfl⟩) (by simp; omega)
            simp only [List.length_cons] at this
            cases hq : listF f (br.length + 1) o ts' with
            | err e l c => rw [hq] at this; exact this
            | ok K r =>
              rw [hq] at this
              have := this.2 (by simp)
              exact ⟨this.2, this.1⟩) (by omega) (by simp)
          have hu : refR ((t :: ts).length + 1) rows br (t :: ts) = (match oneR rows br t.pos (t :: ts) with
              | .ok rows' br' r => refR (ts.length + 1) rows' br' r
              | .err e l c => .err e l c) := by
            conv => lhs; unfold refR
            rw [if_pos k1]
            rfl
          rw [hu, hs]
          cases hst : stmtF (fun o r => listF f (br.length + 1) o r) br.length t.pos (t :: ts) with
          | err e l c => rfl
          | ok F r =>
            have hlr := stmtF_rest (fun o ts K q h => listF_rest _ _ _ _ _ _ h) hst
            simp only [List.length_cons] at hlr
            have h2 := ih op (rows ++ rowsF br.length F) br r (by omega) hop hbr
            simp only
            cases hq : listF f br.length op r with
            | err e l c =>
              rw [hq] at h2
              simp only [putF]
              rw [refR_fuel (ts.length + 1) (r.length + 1) _ _ r (by omega) (by omega)]
              exact h2
            | ok G r' =>
              rw [hq] at h2
              simp only [putF]
              refine ⟨fun hb => ?_, fun hb => ?_⟩
              · have h3 := h2.1 hb
                refine ⟨h3.1, ?_⟩
                rw [refR_fuel (ts.length + 1) (r.length + 1) _ _ r (by omega) (by omega), h3.2, rowsF_app, List.append_assoc]
              · have h3 := h2.2 hb
                refine ⟨by simp; omega, ?_⟩
                rw [refR_fuel (ts.length + 1) (r.length + 1) _ _ r (by omega) (by omega), h3.2, rowsF_app, List.append_assoc]
                exact refR_fuel _ _ _ _ _ (by omega) (by simp; omega)
        · rw [if_neg k1]
          simp [refR, k1, k3]
end Go.Proofs.Ytihmmmodimionaa.Tr
/- Good rows and their statements, in plain words; no program is in sight. -/
namespace Go.Proofs.Ytihmmmodimionaa.Tr
open Go.RowKit Go.Proofs.Ytihmmmodimionaa Go.Proofs.Ytihmmmodimionaa.Lx

/-- a row as it comes in: what stands at its words' places is not read -/
structure RowI where
  deep : Int
  ws : List ByteArray
  op : Bool
def posG (i n : Nat) : List Pl := (List.range n).map fun (k : Nat) => ((i : Int) + 1, (k : Int) + 1)
theorem posG_len (i n : Nat) : (posG i n).length = n := by simp [posG]
theorem posG_next (i n : Nat) : posG i (n + 1) = posG i n ++ [((i : Int) + 1, (n : Int) + 1)] := by simp [posG, List.range_succ]
def dG (x : Int) (d : Nat) : Nat := (min (max x 0) (d : Int)).toNat
theorem dG_le (x : Int) (d : Nat) : dG x d ≤ d := by unfold dG; omega
theorem dG_int (x : Int) (d : Nat) : ((dG x d : Nat) : Int) = min (max x 0) (d : Int) := by unfold dG; omega
def nG (op : Bool) (d : Nat) : Nat := if op = true ∧ d < 30 then d + 1 else d
theorem nG_le {op : Bool} {d : Nat} (h : d ≤ 30) : nG op d ≤ 30 := by unfold nG; split <;> omega
def goodR : Nat → Nat → List RowI → List RowD
  | _, _, [] => []
  | i, d, r :: rs => if 120 ≤ i then [] else if r.ws.length = 0 ∨ 8 < r.ws.length then goodR (i + 1) d rs
    else ⟨dG r.deep d, r.ws, posG i r.ws.length, r.op⟩ :: goodR (i + 1) (nG r.op (dG r.deep d)) rs
/-- rows as good makes them: d is as deep as the first one may stand -/
def okR : Nat → List RowD → Prop
  | _, [] => True
  | d, r :: rs => r.deep ≤ d ∧ 1 ≤ r.ws.length ∧ r.ws.length ≤ 8 ∧ r.ps.length = r.ws.length ∧ okR (nG r.op r.deep) rs
theorem good_ok : ∀ (L : List RowI) (i d : Nat), okR d (goodR i d L)
  | [], _, _ => trivial
  | r :: rs, i, d => by
    unfold goodR
    split
    · trivial
    · split
      · exact good_ok rs (i + 1) d
      · rename_i h
        refine ⟨dG_le _ _, by simp only; omega, by simp only; omega, posG_len _ _, good_ok rs _ _⟩
theorem good_len : ∀ (L : List RowI) (i d : Nat), (goodR i d L).length + i ≤ max i 120
  | [], i, _ => by simp [goodR]; omega
  | r :: rs, i, d => by
    unfold goodR
    split
    · simp; omega
    · split
      · have := good_len rs (i + 1) d; omega
      · have := good_len rs (i + 1) (nG r.op (dG r.deep d))
        rw [List.length_cons]
        omega
theorem good_words : ∀ (L : List RowI) (i d : Nat), ∀ r ∈ goodR i d L, ∃ q ∈ L, r.ws = q.ws
  | [], _, _, r, h => by cases h
  | q :: qs, i, d, r, h => by
    unfold goodR at h
    split at h
    · cases h
    · split at h
      · obtain ⟨q', h1, h2⟩ := good_words qs _ _ r h
        exact ⟨q', List.mem_cons_of_mem _ h1, h2⟩
      · rcases List.mem_cons.1 h with rfl | h
        · exact ⟨q, by simp, rfl⟩
        · obtain ⟨q', h1, h2⟩ := good_words qs _ _ r h
          exact ⟨q', List.mem_cons_of_mem _ h1, h2⟩
theorem okR_app : ∀ (a b : List RowD) (d : Nat), okR d (a ++ b) → okR d a ∧ ∃ d', okR d' b
  | [], b, d, h => ⟨trivial, d, h⟩
  | r :: rs, b, d, h => by
    obtain ⟨h1, h2, h3, h4, h5⟩ := h
    obtain ⟨h6, h7⟩ := okR_app rs b _ h5
    exact ⟨⟨h1, h2, h3, h4, h6⟩, h7⟩
theorem okR_head {d d' : Nat} {r : RowD} {rs : List RowD} (h : okR d (r :: rs)) (hd : r.deep ≤ d') : okR d' (r :: rs) := ⟨hd, h.2⟩
def inR (d : Nat) (rs : List RowD) : List RowD := rs.takeWhile fun q => decide (d < q.deep)
def outR (d : Nat) (rs : List RowD) : List RowD := rs.dropWhile fun q => decide (d < q.deep)
theorem in_out (d : Nat) (rs : List RowD) : inR d rs ++ outR d rs = rs := List.takeWhile_append_dropWhile
theorem inR_all {d : Nat} : ∀ {rs : List RowD}, ∀ r ∈ inR d rs, d + 1 ≤ r.deep
  | [], r, h => by cases h
  | q :: rs, r, h => by
    unfold inR at h
    rw [List.takeWhile_cons] at h
    split at h
    · rename_i hq
      rcases List.mem_cons.1 h with rfl | h
      · have h2 : d < r.deep := by simpa using hq
        exact h2
      · exact inR_all (rs := rs) r h
    · cases h
theorem in_len (d : Nat) (rs : List RowD) : (inR d rs).length + (outR d rs).length = rs.length := by
  rw [← List.length_append, in_out]
theorem outR_head {d : Nat} {rs : List RowD} {r : RowD} {us : List RowD} (h : outR d rs = r :: us) : r.deep ≤ d := by
  have h1 := List.head?_dropWhile_not (fun q : RowD => decide (d < q.deep)) rs
  rw [show rs.dropWhile (fun q : RowD => decide (d < q.deep)) = r :: us from h] at h1
  simpa using h1
/-- rows as statements -/
def nodesF : Nat → Nat → List RowD → Fo
  | 0, _, _ => .nil
  | _ + 1, _, [] => .nil
  | f + 1, d, r :: rs => .cons r.ws r.ps r.op (if r.op = true then nodesF f (d + 1) (inR d rs) else .nil) (nodesF f d (outR d rs))
theorem nodes_fuel : ∀ (f g d : Nat) (L : List RowD), L.length ≤ f → L.length ≤ g → nodesF f d L = nodesF g d L
  | 0, g, d, L, h, _ => by
    obtain rfl : L = [] := List.eq_nil_of_length_eq_zero (by omega)
    cases g <;> rfl
  | f + 1, 0, d, L, _, h => by
    obtain rfl : L = [] := List.eq_nil_of_length_eq_zero (by omega)
    rfl
  | f + 1, g + 1, d, [], _, _ => rfl
  | f + 1, g + 1, d, r :: rs, h, h' => by
    have hl := in_len d rs
    simp only [List.length_cons] at h h'
    rw [nodesF, nodesF, nodes_fuel f g (d + 1) (inR d rs) (by omega) (by omega), nodes_fuel f g d (outR d rs) (by omega) (by omega)]
/-- .. and back -/
theorem rows_nodes : ∀ (f d : Nat) (L : List RowD), L.length ≤ f → okR d L → (∀ r ∈ L, d ≤ r.deep) → rowsF d (nodesF f d L) = L
  | 0, d, L, h, _, _ => by
    obtain rfl : L = [] := List.eq_nil_of_length_eq_zero (by omega)
    rfl
  | f + 1, d, [], _, _, _ => rfl
  | f + 1, d, r :: rs, h, hok, hall => by
    have hl := in_len d rs
    simp only [List.length_cons] at h
    obtain ⟨h1, h2, h3, h4, h5⟩ := hok
    have hd : r.deep = d := Nat.le_antisymm h1 (hall r (by simp))
    have h5' := h5
    rw [← in_out d rs] at h5'
    obtain ⟨h6, d', h7⟩ := okR_app _ _ _ h5'
    have hout : okR d (outR d rs) := by
      cases ho : outR d rs with
      | nil => trivial
      | cons q us => rw [ho] at h7; exact okR_head h7 (outR_head ho)
    have hoa : ∀ q ∈ outR d rs, d ≤ q.deep := fun q hq => hall q (List.mem_cons_of_mem _ (by rw [← in_out d rs]; exact List.mem_append_right _ hq))
    have hR := rows_nodes f d (outR d rs) (by omega) hout hoa
    have hin : rowsF (d + 1) (if r.op = true then nodesF f (d + 1) (inR d rs) else .nil) = inR d rs := by
      by_cases hop : r.op = true ∧ d < 30
      · rw [if_pos hop.1]
        rw [hd, nG, if_pos hop] at h6
        exact rows_nodes f (d + 1) (inR d rs) (by omega) h6 inR_all
      · have he : inR d rs = [] := by
          cases hi : inR d rs with
          | nil => rfl
          | cons q us =>
            rw [hi, hd, nG, if_neg hop] at h6
            have h8 := h6.1
            have h9 := inR_all (d := d) (rs := rs) q (by rw [hi]; simp)
            omega
        rw [he]
        split
        · cases f <;> rfl
        · rfl
    rw [nodesF, rowsF, hR, hin, in_out, ← hd]
theorem good_rows (L : List RowI) : rowsF 0 (nodesF (goodR 0 0 L).length 0 (goodR 0 0 L)) = goodR 0 0 L :=
  rows_nodes _ _ _ (Nat.le_refl _) (good_ok L 0 0) (fun _ _ => Nat.zero_le _)
end Go.Proofs.Ytihmmmodimionaa.Tr
/- How statements are written, in plain words. -/
namespace Go.Proofs.Ytihmmmodimionaa.Tr
open Go.RowKit Go.Proofs.Ytihmmmodimionaa Go.Proofs.Ytihmmmodimionaa.Lx

/-- a byte that can't be written -/
def badB (c : UInt8) : Bool := decide (c.toNat < 32) || decide (126 < c.toNat) || decide (c.toNat = 34)
def quoteT (w : List UInt8) : Option (List UInt8) :=
  if w.any badB then none
  else if w = [] ∨ 0 ≤ Lib.indexAny w [32, 123, 125, 59, 91, 93, 35] ∨ 0 ≤ Lib.index w [47, 42] then some ([34] ++ w ++ [34])
  else some w
def quotesT : List ByteArray → Option (List (List UInt8))
  | [] => some []
  | w :: ws => match quoteT (T w) with
    | none => none
    | some q => match quotesT ws with
      | none => none
      | some qs => some (q :: qs)
def indT (d : Nat) : List UInt8 := List.replicate (4 * d) 32
def writeF : Nat → Fo → Option (List UInt8)
  | _, .nil => some []
  | d, .cons ws _ blk K R =>
    if ws.length = 0 ∨ (blk = false ∧ K.len ≠ 0) ∨ (blk = true ∧ 32 ≤ d) then none
    else match quotesT ws with
      | none => none
      | some qs =>
        if blk then match writeF (d + 1) K with
          | none => none
          | some k => match writeF d R with
            | none => none
            | some r => some (indT d ++ Lib.join qs [32] ++ [32, 123, 10] ++ k ++ (indT d ++ [125, 10]) ++ r)
        else match writeF d R with
          | none => none
          | some r => some (indT d ++ Lib.join qs [32] ++ [59, 10] ++ r)
end Go.Proofs.Ytihmmmodimionaa.Tr
/- What write writes, in plain words: how much room it takes; statement by statement. -/
namespace Go.Proofs.Ytihmmmodimionaa.Tr
open Go.RowKit Go.Proofs.Ytihmmmodimionaa Go.Proofs.Ytihmmmodimionaa.Lx

def Fo.nodes : Fo → Nat
  | .nil => 0
  | .cons _ _ _ K R => K.nodes + R.nodes + 1
def wsW : List ByteArray → Nat
  | [] => 0
  | w :: ws => w.size + 3 + wsW ws
def wtF : Fo → Nat
  | .nil => 0
  | .cons ws _ _ K R => wsW ws + 300 + wtF K + wtF R
def WB : Fo → Prop
  | .nil => True
  | .cons ws _ _ K R => (∀ w ∈ ws, w.size < 4294967281) ∧ WB K ∧ WB R
def pre (o : List UInt8) (r : Option (List UInt8)) : Option (List UInt8) := r.map fun q => o ++ q
def preQ (o : List (List UInt8)) (r : Option (List (List UInt8))) : Option (List (List UInt8)) := r.map fun q => o ++ q
theorem pre_nil (r : Option (List UInt8)) : pre [] r = r := by cases r <;> rfl
theorem pre_pre (a b : List UInt8) (r : Option (List UInt8)) : pre a (pre b r) = pre (a ++ b) r := by cases r <;> simp [pre]
theorem preQ_nil (r : Option (List (List UInt8))) : preQ [] r = r := by cases r <;> rfl
theorem len_wt : ∀ F : Fo, F.len ≤ wtF F
  | .nil => by simp [Fo.len]
  | .cons ws _ _ K R => by
    have := len_wt R
    show R.len + 1 ≤ wsW ws + 300 + wtF K + wtF R
    omega
theorem quoteT_len {w q : List UInt8} (h : quoteT w = some q) : q.length ≤ w.length + 2 := by
  unfold quoteT at h
  split at h
  · cases h
  · split at h
    · injection h with h; subst h; simp
    · injection h with h; subst h; omega
def lenQ (qs : List (List UInt8)) : Nat := (qs.map fun q => q.length + 1).sum
theorem lenQ_app (a : List (List UInt8)) (q : List UInt8) : lenQ (a ++ [q]) = lenQ a + q.length + 1 := by simp [lenQ]; omega
theorem joinTail_le : ∀ qs : List (List UInt8), (Lib.joinTail [32] qs).length = lenQ qs
  | [] => rfl
  | q :: qs => by
    have := joinTail_le qs
    simp only [Lib.joinTail, lenQ, List.map_cons, List.flatten_cons, List.length_append, List.sum_cons, List.length_cons, List.length_nil] at this ⊢
    omega
theorem join_le (qs : List (List UInt8)) : (Lib.join qs [32]).length ≤ lenQ qs := by
  cases qs with
  | nil => simp [Lib.join_nil]
  | cons q qs =>
    rw [Lib.join_cons, List.length_append, joinTail_le]
    simp only [lenQ, List.map_cons, List.sum_cons]
    omega
theorem quotes_none {ws rest : List ByteArray} {w : ByteArray} {qs : List (List UInt8)} (h : quotesT ws = preQ qs (quotesT (w :: rest))) (hq : quoteT (T w) = none) : quotesT ws = none := by
  rw [h, quotesT, hq]; rfl
theorem quotes_some {ws rest : List ByteArray} {w : ByteArray} {qs : List (List UInt8)} {q : List UInt8} (h : quotesT ws = preQ qs (quotesT (w :: rest))) (hq : quoteT (T w) = some q) : quotesT ws = preQ (qs ++ [q]) (quotesT rest) := by
  rw [h, quotesT, hq]
  cases quotesT rest <;> simp [preQ]
theorem write_bad {d : Nat} {ws : List ByteArray} {ps : List (Int × Int)} {blk : Bool} {K R : Fo} (h : ws.length = 0 ∨ (blk = false ∧ K.len ≠ 0) ∨ (blk = true ∧ 32 ≤ d)) : writeF d (.cons ws ps blk K R) = none := by
  rw [writeF, if_pos h]
theorem write_noq {d : Nat} {ws : List ByteArray} {ps : List (Int × Int)} {blk : Bool} {K R : Fo} (h : quotesT ws = none) : writeF d (.cons ws ps blk K R) = none := by
  rw [writeF, h]
  split <;> rfl
theorem write_leaf {d : Nat} {ws : List ByteArray} {ps : List (Int × Int)} {K R : Fo} {qs : List (List UInt8)} (h0 : ws.length ≠ 0) (hK : K.len = 0) (h : quotesT ws = some qs) : writeF d (.cons ws ps false K R) = pre (indT d ++ Lib.join qs [32] ++ [59, 10]) (writeF d R) := by
  rw [writeF, h, if_neg (by
    rintro (h1 | ⟨_, h1⟩ | ⟨h1, _⟩)
    · exact h0 h1
    · exact h1 hK
    · cases h1)]
  cases writeF d R <;> rfl
theorem write_kno {d : Nat} {ws : List ByteArray} {ps : List (Int × Int)} {K R : Fo} (h : writeF (d + 1) K = none) : writeF d (.cons ws ps true K R) = none := by
  rw [writeF, h]
  split
  · rfl
  · cases quotesT ws <;> rfl
theorem write_blk {d : Nat} {ws : List ByteArray} {ps : List (Int × Int)} {K R : Fo} {qs : List (List UInt8)} {k : List UInt8} (h0 : ws.length ≠ 0) (hd : d < 32) (h : quotesT ws = some qs) (hk : writeF (d + 1) K = some k) : writeF d (.cons ws ps true K R) = pre (indT d ++ Lib.join qs [32] ++ [32, 123, 10] ++ k ++ (indT d ++ [125, 10])) (writeF d R) := by
  rw [writeF, h, hk, if_neg (by
    rintro (h1 | ⟨h1, _⟩ | ⟨_, h1⟩)
    · exact h0 h1
    · cases h1
    · omega)]
  cases writeF d R <;> rfl
theorem quotes_len : ∀ (ws : List ByteArray) (qs : List (List UInt8)), quotesT ws = some qs → qs.length = ws.length ∧ lenQ qs ≤ wsW ws
  | [], qs, h => by
    rw [quotesT] at h
    injection h with h
    subst h
    exact ⟨rfl, Nat.le_refl _⟩
  | w :: ws, qs, h => by
    rw [quotesT] at h
    cases e : quoteT (T w) with
    | none => rw [e] at h; cases h
    | some q =>
      rw [e] at h
      cases e2 : quotesT ws with
      | none => rw [e2] at h; cases h
      | some rs =>
        rw [e2] at h
        injection h with h
        subst h
        have h1 := quotes_len ws rs e2
        have h2 := quoteT_len e
        rw [T_len] at h2
        refine ⟨by simp [h1.1], ?_⟩
        simp only [lenQ, List.map_cons, List.sum_cons, wsW] at h1 ⊢
        omega
theorem write_wt : ∀ (F : Fo) (d : Nat) (o : List UInt8), writeF d F = some o → d ≤ 32 → o.length ≤ wtF F
  | .nil, d, o, h, _ => by
    rw [writeF] at h
    injection h with h
    subst h
    exact Nat.zero_le _
  | .cons ws ps blk K R, d, o, h, hd => by
    rw [writeF] at h
    split at h
    · cases h
    · rename_i hn
      cases e : quotesT ws with
      | none => rw [e] at h; cases h
      | some qs =>
        rw [e] at h
        have h1 := join_le qs
        have h2 := (quotes_len ws qs e).2
        cases blk with
        | false =>
          simp only [Bool.false_eq_true, if_false] at h
          cases e3 : writeF d R with
          | none => rw [e3] at h; cases h
          | some r =>
            rw [e3] at h
            injection h with h
            subst h
            have h3 := write_wt R d r e3 hd
            rw [wtF]
            simp [indT]
            omega
        | true =>
          simp only [if_true] at h
          have hd2 : d < 32 := by
            rcases Nat.lt_or_ge d 32 with h' | h'
            · exact h'
            · exact absurd (.inr (.inr ⟨rfl, h'⟩)) hn
          cases e4 : writeF (d + 1) K with
          | none => rw [e4] at h; cases h
          | some k =>
            rw [e4] at h
            cases e3 : writeF d R with
            | none => rw [e3] at h; cases h
            | some r =>
              rw [e3] at h
              injection h with h
              subst h
              have h3 := write_wt R d r e3 hd
              have h4 := write_wt K (d + 1) k e4 (by omega)
              rw [wtF]
              simp [indT]
              omega
theorem repeat_ind : ∀ d : Nat, Lib.repeatL [32, 32, 32, 32] d = indT d
  | 0 => rfl
  | d + 1 => by
    rw [Lib.repeatL, repeat_ind d, indT, indT, show 4 * (d + 1) = 4 + 4 * d by omega, ← List.replicate_append_replicate]
    rfl
end Go.Proofs.Ytihmmmodimionaa.Tr
/- quoted: a word as it is written. -/
namespace Go.Proofs.Ytihmmmodimionaa.Tr
open Go.RowKit Go.Proofs.Ytihmmmodimionaa Go.Proofs.Ytihmmmodimionaa.Lx

def quoteV (w : List UInt8) : Value := match quoteT w with
  | some q => .tuple #[.string ⟨q.toArray⟩, .bool true]
  | none => .tuple #[.string ⟨#[]⟩, .bool false]
theorem bytes_below (w : World) (e : TypeId) (s : ByteArray) : Below w.heap.size w (Lib.bytesWorld w e s) :=
  ⟨rfl, rfl, rfl, by rw [Lib.bytesWorld_size]; omega, fun k hk => Lib.bytesWorld_at_old w e s k hk⟩
theorem any_get {w : List UInt8} {p : UInt8 → Bool} {k : Nat} (hk : k < w.length) (h : p w[k] = true) : w.any p = true :=
  List.any_eq_true.2 ⟨w[k], List.getElem_mem hk, h⟩
theorem quote_bytes (s : ByteArray) (q : List UInt8) (h : q = [34] ++ T s ++ [34]) : ((⟨#[34]⟩ : ByteArray) ++ s) ++ (⟨#[34]⟩ : ByteArray) = ⟨q.toArray⟩ := by
  subst h
  apply ByteArray.ext
  simp [ByteArray.data_append, T]
set_option maxHeartbeats 2000000 in
theorem quoted_any (s : ByteArray) (w : World) (hs : s.size < 4294967281) (m : Int) (hm : w.cell? ⟨0, 0, none⟩ = some (.int .i64 m)) :
    Calls Try.prog 64 #[.string s] w fun e w' => e = .returned (quoteV (T s)) ∧ Below w.heap.size w w' := by
  have hcv := fun w s => Lib.run_convert_string_bytes (P := Try.prog) w 9 82 5 s Try.underlying9 Try.underlying82 Try.underlying5
  have HB0 := hide (bytes_below w 5 s)
  have HC := hide (fun j hj => Lib.bytesWorld_cell w 5 s j hj)
  have HM := hide hm
  clear hm
  go_enter Try.func64, Try.ntmps64
  go_wp2_with fail
  go_loopw [9] (fun j wr => ∃ k : Nat, j = .int .i64 k ∧ k ≤ s.size ∧ wr = Lib.bytesWorld w 5 s ∧ ∀ i : Nat, i < k → badB (s.data.toList.getD i 0) = false) (fun j _ => s.size - (intOf j).toNat)
  case atStart => exact ⟨0, rfl, Nat.zero_le _, rfl, fun i hi => absurd hi (Nat.not_lt_zero i)⟩
  case round =>
    obtain ⟨k, rfl, hk, rfl, hbs⟩ := hrel
    have HBS := hide hbs
    clear hbs
    have hln : (T s).length = s.size := T_len s
    rcases Nat.lt_or_ge k s.size with hlt | hge
    · have hc := HC.out k hlt
      have hq : badB (s.data.toList.getD k 0) = true → quoteV (T s) = .tuple #[.string ⟨#[]⟩, .bool false] := fun hb => by
        have : (T s).any badB = true := any_get (k := k) (by omega) (by
          rw [← hb]
          congr 1
          rw [List.getD_eq_getElem?_getD, show s.data.toList = T s from rfl, List.getElem?_eq_getElem (by omega)]
          rfl)
        unfold quoteV quoteT
        rw [if_pos this]
      have HQ := hide hq
      have HLT := hide hlt
      clear hq hln
      have hbd : badB (s.data.toList.getD k 0) = (decide ((s.data.toList.getD k 0).toNat < 32) || decide (126 < (s.data.toList.getD k 0).toNat) || decide ((s.data.toList.getD k 0).toNat = 34)) := rfl
      have HBD := hide hbd
      clear hbd
      have hx : (s.data.toList.getD k 0).toNat < 256 := (s.data.toList.getD k 0).toNat_lt
      generalize hcc : s.data.toList.getD k 0 = cc at *
      generalize hcx : cc.toNat = x at *
      by_cases h1 : x < 32
      · have e1 : decide ((x : Int) < 32) = true := decide_eq_true (by omega)
        have HE := hide (HQ.out (by rw [HBD.out]; simp [h1]))
        clear h1 hcc hcx
        go_wp2_with fail
        (try simp only [Exit.inBlock, Exit.then])
        go_returns
        exact ⟨by rw [HE.out]; rfl, HB0.out⟩
      · have e1 : decide ((x : Int) < 32) = false := decide_eq_false (by omega)
        by_cases h2 : 126 < x
        · have e2 : decide ((126 : Int) < (x : Int)) = true := decide_eq_true (by omega)
          have HE := hide (HQ.out (by rw [HBD.out]; simp [h2]))
          clear h1 h2 hcc hcx
          go_wp2_with fail
          (try simp only [Exit.inBlock, Exit.then])
          go_returns
          exact ⟨by rw [HE.out]; rfl, HB0.out⟩
        · have e2 : decide ((126 : Int) < (x : Int)) = false := decide_eq_false (by omega)
          by_cases h3 : x = 34
          · have e3 : ((x : Int) == 34) = true := beq_it (by omega)
            have HE := hide (HQ.out (by rw [HBD.out]; simp [h3]))
            clear h1 h2 h3 hcc hcx
            go_wp2_with fail
            (try simp only [Exit.inBlock, Exit.then])
            go_returns
            exact ⟨by rw [HE.out]; rfl, HB0.out⟩
          · have e3 : ((x : Int) == 34) = false := beq_if (by omega)
            have HE := hide (show badB cc = false from by rw [HBD.out]; simp [h3]; omega)
            have HCC := hide hcc
            clear h1 h2 h3 hcc hcx
            go_wp2_with fail
            go_roundw
            case rel =>
              refine ⟨k + 1, by go_num, by have := HLT.out; omega, by first | rfl | trivial, fun i hi => ?_⟩
              rcases Nat.lt_or_ge i k with h | h
              · exact HBS.out i h
              · obtain rfl : i = k := by omega
                rw [HCC.out]
                exact HE.out
            case measure => have := HLT.out; simp [intOf]; omega
    · obtain rfl : k = s.size := by omega
      have hall : ∀ c ∈ T s, badB c = false := by
        intro c hc
        obtain ⟨i, hi, rfl⟩ := List.getElem_of_mem hc
        have := HBS.out i (by omega)
        rw [List.getD_eq_getElem?_getD, show s.data.toList = T s from rfl, List.getElem?_eq_getElem hi] at this
        exact this
      have hany : (T s).any badB = false := by
        rw [List.any_eq_false]
        intro c hc
        rw [hall c hc]; decide
      have hq : quoteV (T s) = if T s = [] ∨ 0 ≤ Lib.indexAny (T s) [32, 123, 125, 59, 91, 93, 35] ∨ 0 ≤ Lib.index (T s) [47, 42] then .tuple #[.string ⟨([34] ++ T s ++ [34]).toArray⟩, .bool true] else .tuple #[.string ⟨(T s).toArray⟩, .bool true] := by
        unfold quoteV quoteT
        rw [if_neg (by rw [hany]; decide)]
        by_cases hcd : T s = [] ∨ 0 ≤ Lib.indexAny (T s) [32, 123, 125, 59, 91, 93, 35] ∨ 0 ≤ Lib.index (T s) [47, 42]
        · rw [if_pos hcd, if_pos hcd]
        · rw [if_neg hcd, if_neg hcd]
      have hasc : ∀ (j : Nat) b, s.data.toList[j]? = some b → b.toNat < 128 := by
        intro j b hj
        have := hall b (List.mem_of_getElem? hj)
        unfold badB at this
        simp only [Bool.or_eq_false_iff, decide_eq_false_iff_not] at this
        omega
      have HQ := hide hq
      have HM2 := hide (cellB HB0.out HM.out)
      have HCA := hide (Try.strings_ContainsAny_laid s ⟨#[32, 123, 125, 59, 91, 93, 35]⟩ (Lib.bytesWorld w 5 s) hs (by decide) hasc (by
        intro j b hj
        match j, hj with
        | 0, hj | 1, hj | 2, hj | 3, hj | 4, hj | 5, hj | 6, hj => simp at hj; subst hj; decide
        | j + 7, hj => simp at hj))
      have HCO := hide (fun w' (hb : Below (Lib.bytesWorld w 5 s).heap.size (Lib.bytesWorld w 5 s) w') => Try.strings_Contains s ⟨#[47, 42]⟩ m w' hs (cellB hb HM2.out))
      have hd1 : decide ((s.size : Int) < (s.size : Int)) = false := decide_eq_false (by omega)
      clear hq hany hall hasc hge hk HC HBS
      by_cases h0 : T s = []
      · have hem : s.toList.isEmpty = true := by rw [ByteArray.toList_eq, show s.data.toList = T s from rfl, h0]; rfl
        have HE := hide (HQ.out.trans (if_pos (.inl h0)))
        have hz : s.size = 0 := by rw [← hln, h0]; rfl
        clear h0 hln
        go_wp2_with fail
        (try simp only [Exit.inBlock, Exit.then])
        go_returns
        exact ⟨by rw [HE.out, ← quote_bytes s _ rfl]; rfl, HB0.out⟩
      · have hem : s.toList.isEmpty = false := by
          rw [ByteArray.toList_eq, show s.data.toList = T s from rfl]
          cases h : T s with
          | nil => exact absurd h h0
          | cons x xs => rfl
        have hz : ¬ s.size = 0 := fun h => h0 (List.eq_nil_of_length_eq_zero (by omega))
        have H0 := hide h0
        clear h0 hln
        go_wp2_with fail
        refine HCA.out.mono ?_
        rintro e w2 ⟨rfl, hb2⟩
        have HB2 := hide (below_wide HB0.out hb2)
        have HCO2 := hide (HCO.out w2 hb2)
        clear hb2 HCA HCO
        by_cases h1 : 0 ≤ Lib.indexAny (T s) [32, 123, 125, 59, 91, 93, 35]
        · have h1' : Lib.containsAny s.data.toList [32, 123, 125, 59, 91, 93, 35] = true := decide_eq_true h1
          have HE := hide (HQ.out.trans (if_pos (.inr (.inl h1))))
          clear h1
          go_wp2_with fail
          (try simp only [Exit.inBlock, Exit.then])
          go_returns
          exact ⟨by rw [HE.out, ← quote_bytes s _ rfl]; rfl, HB2.out⟩
        · have h1' : Lib.containsAny s.data.toList [32, 123, 125, 59, 91, 93, 35] = false := decide_eq_false h1
          have H1 := hide h1
          clear h1
          go_wp2_with fail
          refine HCO2.out.mono ?_
          rintro e w3 ⟨rfl, rfl⟩
          by_cases h2 : 0 ≤ Lib.index (T s) [47, 42]
          · have h2' : Lib.contains s.data.toList [47, 42] = true := decide_eq_true h2
            have HE := hide (HQ.out.trans (if_pos (.inr (.inr h2))))
            clear h2
            go_wp2_with fail
            (try simp only [Exit.inBlock, Exit.then])
            go_returns
            exact ⟨by rw [HE.out, ← quote_bytes s _ rfl]; rfl, HB2.out⟩
          · have h2' : Lib.contains s.data.toList [47, 42] = false := decide_eq_false h2
            have HE := hide (HQ.out.trans (if_neg (fun h => by
              rcases h with h | h | h
              · exact absurd h H0.out
              · exact absurd h (by have := H1.out; omega)
              · exact absurd h h2)))
            clear h2
            go_wp2_with fail
            (try simp only [Exit.inBlock, Exit.then])
            go_returns
            exact ⟨by rw [HE.out]; rfl, HB2.out⟩
end Go.Proofs.Ytihmmmodimionaa.Tr
/- Regions that draw their order: what only reckons may be taken first; what is left comes one by one. No program is in sight. -/
namespace Go.Proofs.Ytihmmmodimionaa

/-- an operation that only reckons -/
def plainB (o : Oper) : Bool :=
  match o.op with
  | .move _ | .assign _ | .pick .. | .build .. | .binOp .. | .unOp .. | .convert .. | .slice .. | .fieldAddr .. | .field .. | .indexAddr .. | .index .. | .extract .. => true
  | _ => false
theorem value_run {P : Program} (s : Sem Value) (w : World) : (∃ u w', (do pure (Next.value (← s)) : Sem Next).run P w = .ok (.value u) w') ∨ ∃ x w', (do pure (Next.value (← s)) : Sem Next).run P w = .halt x w' := by
  rw [Sem.run_bind]
  cases s.run P w with
  | ok u w' => exact .inl ⟨u, w', rfl⟩
  | halt x w' => exact .inr ⟨x, w', rfl⟩
theorem plain_run {P : Program} {o : Oper} {ρ : Operand → Value} (w : World) (hp : plainB o = true) : (∃ u w', (execOp ρ o).run P w = .ok (.value u) w') ∨ ∃ x w', (execOp ρ o).run P w = .halt x w' := by
  unfold plainB at hp
  unfold execOp
  split at hp <;> rename_i ho
  case h_1 => simp only [ho]; exact .inl ⟨_, _, rfl⟩
  case h_2 => simp only [ho]; exact .inl ⟨_, _, rfl⟩
  case h_3 => 
    simp only [ho]
    rw [Sem.run_bind]
    cases (asBool (ρ _)).run P w with
    | ok u w' => exact .inl ⟨_, w', rfl⟩
    | halt x w' => exact .inr ⟨x, w', rfl⟩
  case h_14 => cases hp
  all_goals (simp only [ho]; exact value_run _ _)

def ident (x : World) : World := x
/-- the class of all worlds -/
abbrev AnyW : World → Prop := fun w' => ∃ x, w' = ident x
theorem anyW (w : World) : AnyW w := ⟨w, rfl⟩

theorem yields_quiet {P : Program} {ops : Array Oper} {o : Oper} {a : Act} {K : Act → Prop} (hp : plainB o = true) (hw : Region.wanted o (yielded ops a.tmps) = true) (h : o.quiet P a AnyW K) :
    ∃ v, Yields P ops o v a ∧ K (a.put o.dst v) := by
  obtain ⟨v, h1, h2⟩ := h
  refine ⟨v, .inl ⟨hw, fun w => ?_⟩, h2⟩
  have h3 := h1 w (anyW w)
  unfold Oper.quietAt at h3
  rcases plain_run (P := P) (ρ := a.eval) w hp with ⟨u, w', e⟩ | ⟨x, w', e⟩
  · rw [e] at h3 ⊢
    obtain ⟨rfl, rfl⟩ := h3
    rfl
  · rw [e] at h3
    cases h3

/-- the operation of this number -/
inductive AtN : List Oper → Nat → Oper → Prop
  | zero {o : Oper} {l : List Oper} : AtN (o :: l) 0 o
  | succ {k : Nat} {o x : Oper} {l : List Oper} : AtN l k o → AtN (x :: l) (k + 1) o
theorem AtN.get {l : List Oper} {k : Nat} {o : Oper} (h : AtN l k o) : l[k]? = some o := by
  induction h with
  | zero => rfl
  | succ _ ih => simpa using ih
/-- the operations of these numbers -/
inductive Picks (l : List Oper) : List Nat → List Oper → Prop
  | nil : Picks l [] []
  | cons {k : Nat} {o : Oper} {ks : List Nat} {os : List Oper} : AtN l k o → Picks l ks os → Picks l (k :: ks) (o :: os)

def restB (md : Region.Mode) (ops : Array Oper) : List Nat → Array Bool → Bool
  | [], listed => (Region.ready md ops listed).isEmpty
  | k :: ks, listed => decide (Region.ready md ops listed = [k]) && restB md ops ks (listed.setIfInBounds k true)
def takenB (md : Region.Mode) (ops : Array Oper) (ks : List Nat) : List Nat → Array Bool → Bool
  | [], listed => restB md ops ks listed
  | k :: hs, listed => (Region.ready md ops listed).contains k && Region.free md ops listed k && ((ops[k]?).map plainB).getD false && takenB md ops ks hs (listed.setIfInBounds k true)

section
variable {P : Program} {md : Region.Mode} {l : List Oper} {Q : Exit → Act → World → Prop}
theorem wpAny_rest : ∀ (ks : List Nat) (os : List Oper) (listed : Array Bool) (a : Act) (w : World), Picks l ks os → restB md l.toArray ks listed = true → wpList P l.toArray Q os a w → wpAny P md l.toArray Q ks.length listed a w := by
  intro ks
  induction ks with
  | nil =>
    intro os listed a w hp hB h
    cases hp
    exact ⟨by simpa [restB] using hB, h⟩
  | cons k ks ih =>
    intro os listed a w hp hB h
    cases hp with
    | cons h0' hp =>
      rename_i o os
      have h0 : l.toArray[k]? = some o := by simpa using h0'.get
      simp only [restB, Bool.and_eq_true, decide_eq_true_eq] at hB
      refine ⟨fun h1 => (by rw [hB.1] at h1; cases h1), fun i hi => ?_⟩
      rw [hB.1] at hi
      have hik : i = k := by simpa using hi
      subst hik
      have hw : wpOp P l.toArray Q i (wpList P l.toArray Q os) a w := by unfold wpOp; simp only [h0]; exact h
      exact wpOp_mono (fun a' w' h' => ih os _ a' w' hp hB.2 h') hw
theorem hput {e : Exit} (hQ : ∀ a (d : Nat) v w, Q e (Act.put a (some d) v) w → Q e a w) (a : Act) (d : Option Nat) (v : Value) (w : World) (h : Q e (Act.put a d v) w) : Q e a w := by
  cases d with
  | none => exact h
  | some d => exact hQ a d v w h
theorem wpAny_taken (hs : Region.noSelect l.toArray = true) (hQ : ∀ c a (d : Nat) v w, Q (.panic c) (Act.put a (some d) v) w → Q (.panic c) a w) (ks : List Nat) (ks' : List Oper) (hk : Picks l ks ks') : ∀ (hds : List Nat) (os : List Oper) (listed : Array Bool) (a : Act) (w : World), Picks l hds os → takenB md l.toArray ks hds listed = true →
    wpQuiet P l.toArray AnyW (fun a' => wpList P l.toArray Q ks' a' w) os a → wpAny P md l.toArray Q (hds.length + ks.length) listed a w := by
  intro hds
  induction hds with
  | nil =>
    intro os listed a w hp hB h
    cases hp
    rw [List.length_nil, Nat.zero_add]
    exact wpAny_rest ks ks' listed a w hk hB h
  | cons k hds ih =>
    intro os listed a w hp hB h
    cases hp with
    | cons h0' hp =>
      rename_i o os
      have h0 : l.toArray[k]? = some o := by simpa using h0'.get
      simp only [takenB, Bool.and_eq_true, h0, Option.map_some, Option.getD_some] at hB
      obtain ⟨⟨⟨hr, hf⟩, hpl⟩, hB'⟩ := hB
      rw [List.length_cons, Nat.add_right_comm]
      unfold wpQuiet at h
      by_cases hw : Region.wanted o (yielded l.toArray a.tmps) = true
      · rw [if_pos hw] at h
        obtain ⟨v, hy, hK⟩ := yields_quiet hpl hw h
        exact wpAny_take h0 hs hf hr (fun c a w h => hput (hQ c) a _ _ w h) hy (ih os _ _ w hp hB' hK)
      · rw [if_neg hw] at h
        exact wpAny_take h0 hs hf hr (fun c a w h => hput (hQ c) a _ _ w h) (.inr ⟨by simpa using hw, rfl⟩) (ih os _ _ w hp hB' h)
theorem wp_region_taken {id : Nat} {a : Act} {w : World} (hds ks : List Nat) {os ks' : List Oper} (hm : P.follows .mixedOrders = true) (hl : hds.length + ks.length = l.toArray.size) (hs : Region.noSelect l.toArray = true) (hB : takenB .any l.toArray ks hds (Array.replicate l.toArray.size false) = true) (hp : Picks l hds os) (hk : Picks l ks ks')
    (hQ : ∀ c a (d : Nat) v w, Q (.panic c) (Act.put a (some d) v) w → Q (.panic c) a w) (h : wpQuiet P l.toArray AnyW (fun a' => wpList P l.toArray Q ks' a' w.drew) os a) : (Code.region id l.toArray true).wp P Q a w := by
  refine wp_region_any hm ?_
  have := wpAny_taken (P := P) (md := .any) (Q := Q) hs hQ ks ks' hk hds os _ a w.drew hp hB h
  rw [hl] at this
  exact this
/-- .. two of those that are left may come up first, whichever: what comes then is one by one -/
def twoB (md : Region.Mode) (ops : Array Oper) (i j : Nat) (ks1 ks2 : List Nat) : List Nat → Array Bool → Bool
  | [], listed => decide (Region.ready md ops listed = [i, j]) && restB md ops ks1 (listed.setIfInBounds i true) && restB md ops ks2 (listed.setIfInBounds j true)
  | k :: hs, listed => (Region.ready md ops listed).contains k && Region.free md ops listed k && ((ops[k]?).map plainB).getD false && twoB md ops i j ks1 ks2 hs (listed.setIfInBounds k true)
theorem wpAny_two (hs : Region.noSelect l.toArray = true) (hQ : ∀ c a (d : Nat) v w, Q (.panic c) (Act.put a (some d) v) w → Q (.panic c) a w) (i j : Nat) (ks1 ks2 : List Nat) (hlen : ks1.length = ks2.length) (os1 os2 : List Oper) (h1 : Picks l (i :: ks1) os1) (h2 : Picks l (j :: ks2) os2) :
    ∀ (hds : List Nat) (os : List Oper) (listed : Array Bool) (a : Act) (w : World), Picks l hds os → twoB md l.toArray i j ks1 ks2 hds listed = true →
    wpQuiet P l.toArray AnyW (fun a' => wpList P l.toArray Q os1 a' w ∧ wpList P l.toArray Q os2 a' w) os a → wpAny P md l.toArray Q (hds.length + (ks1.length + 1)) listed a w := by
  intro hds
  induction hds with
  | nil =>
    intro os listed a w hp hB h
    cases hp
    rw [List.length_nil, Nat.zero_add]
    simp only [twoB, Bool.and_eq_true, decide_eq_true_eq] at hB
    obtain ⟨⟨hr, hB1⟩, hB2⟩ := hB
    obtain ⟨g1, g2⟩ := (show wpList P l.toArray Q os1 a w ∧ wpList P l.toArray Q os2 a w from h)
    refine ⟨fun h0 => (by rw [hr] at h0; cases h0), fun k hk => ?_⟩
    rw [hr] at hk
    cases h1 with
    | cons n1 p1 =>
      cases h2 with
      | cons n2 p2 =>
        rename_i o1 os1 o2 os2
        have q1 : l.toArray[i]? = some o1 := by simpa using n1.get
        have q2 : l.toArray[j]? = some o2 := by simpa using n2.get
        rcases (by simpa using hk : k = i ∨ k = j) with rfl | rfl
        · have hw : wpOp P l.toArray Q k (wpList P l.toArray Q os1) a w := by unfold wpOp; simp only [q1]; exact g1
          exact wpOp_mono (fun a' w' h' => wpAny_rest ks1 os1 _ a' w' p1 hB1 h') hw
        · have hw : wpOp P l.toArray Q k (wpList P l.toArray Q os2) a w := by unfold wpOp; simp only [q2]; exact g2
          rw [hlen]
          exact wpOp_mono (fun a' w' h' => wpAny_rest ks2 os2 _ a' w' p2 hB2 h') hw
  | cons k hds ih =>
    intro os listed a w hp hB h
    cases hp with
    | cons h0' hp =>
      rename_i o os
      have h0 : l.toArray[k]? = some o := by simpa using h0'.get
      simp only [twoB, Bool.and_eq_true, h0, Option.map_some, Option.getD_some] at hB
      obtain ⟨⟨⟨hr, hf⟩, hpl⟩, hB'⟩ := hB
      rw [List.length_cons, Nat.add_right_comm]
      unfold wpQuiet at h
      by_cases hw : Region.wanted o (yielded l.toArray a.tmps) = true
      · rw [if_pos hw] at h
        obtain ⟨v, hy, hK⟩ := yields_quiet hpl hw h
        exact wpAny_take h0 hs hf hr (fun c a w h => hput (hQ c) a _ _ w h) hy (ih os _ _ w hp hB' hK)
      · rw [if_neg hw] at h
        exact wpAny_take h0 hs hf hr (fun c a w h => hput (hQ c) a _ _ w h) (.inr ⟨by simpa using hw, rfl⟩) (ih os _ _ w hp hB' h)
theorem wp_region_two {id : Nat} {a : Act} {w : World} (hds : List Nat) (i j : Nat) (ks1 ks2 : List Nat) {os os1 os2 : List Oper} (hm : P.follows .mixedOrders = true) (hl : hds.length + (ks1.length + 1) = l.toArray.size) (hlen : ks1.length = ks2.length) (hs : Region.noSelect l.toArray = true) (hB : twoB .any l.toArray i j ks1 ks2 hds (Array.replicate l.toArray.size false) = true) (hp : Picks l hds os) (h1 : Picks l (i :: ks1) os1) (h2 : Picks l (j :: ks2) os2)
    (hQ : ∀ c a (d : Nat) v w, Q (.panic c) (Act.put a (some d) v) w → Q (.panic c) a w) (h : wpQuiet P l.toArray AnyW (fun a' => wpList P l.toArray Q os1 a' w.drew ∧ wpList P l.toArray Q os2 a' w.drew) os a) : (Code.region id l.toArray true).wp P Q a w := by
  refine wp_region_any hm ?_
  have := wpAny_two (P := P) (md := .any) (Q := Q) hs hQ i j ks1 ks2 hlen os1 os2 h1 h2 hds os _ a w.drew hp hB h
  rw [hl] at this
  exact this
end
end Go.Proofs.Ytihmmmodimionaa
/- Regions that draw their order: what only reckons first, then each of a few orders one by one. No program is in sight. -/
namespace Go.Proofs.Ytihmmmodimionaa

def calmB (o : Oper) : Bool := plainB o || (match o.op with | .nilCheck _ => true | _ => false)
theorem calm_run {P : Program} {o : Oper} {ρ : Operand → Value} (w : World) (hp : calmB o = true) : (∃ u w', (execOp ρ o).run P w = .ok (.value u) w') ∨ ∃ x w', (execOp ρ o).run P w = .halt x w' := by
  unfold calmB at hp
  rw [Bool.or_eq_true] at hp
  rcases hp with hp | hp
  · exact plain_run w hp
  · unfold execOp
    split at hp <;> rename_i ho
    case h_2 => cases hp
    simp only [ho]
    split
    · exact .inr ⟨_, _, rfl⟩
    · exact .inr ⟨_, _, rfl⟩
    · exact .inr ⟨_, _, rfl⟩
    · split
      · exact .inr ⟨_, _, rfl⟩
      · rw [Sem.run_bind]
        cases (program).run P w with
        | halt x w' => exact .inr ⟨x, w', rfl⟩
        | ok p w' =>
          simp only [Result.andThen]
          rw [Sem.run_bind]
          cases (nilAhead (p.types.size + Made.depth) _ _ _).run P w' with
          | halt x w'' => exact .inr ⟨x, w'', rfl⟩
          | ok b w'' =>
            simp only [Result.andThen]
            split
            · exact .inr ⟨_, _, rfl⟩
            · exact .inl ⟨_, _, rfl⟩
      · exact .inl ⟨_, _, rfl⟩
    · exact .inl ⟨_, _, rfl⟩
theorem yields_calm {P : Program} {ops : Array Oper} {o : Oper} {a : Act} {K : Act → Prop} (hp : calmB o = true) (hw : Region.wanted o (yielded ops a.tmps) = true) (h : o.quiet P a AnyW K) :
    ∃ v, Yields P ops o v a ∧ K (a.put o.dst v) := by
  obtain ⟨v, h1, h2⟩ := h
  refine ⟨v, .inl ⟨hw, fun w => ?_⟩, h2⟩
  have h3 := h1 w (anyW w)
  unfold Oper.quietAt at h3
  rcases calm_run (P := P) (ρ := a.eval) w hp with ⟨u, w', e⟩ | ⟨x, w', e⟩
  · rw [e] at h3 ⊢
    obtain ⟨rfl, rfl⟩ := h3
    rfl
  · rw [e] at h3
    cases h3
/-- an operation that runs no code -/
def lightB (o : Oper) : Bool := calmB o || (match o.op with | .load .. | .buildSlice .. | .alloc _ | .lookup .. => true | _ => false)
theorem light_run {P : Program} {o : Oper} {ρ : Operand → Value} (w : World) (hp : lightB o = true) : (∃ u w', (execOp ρ o).run P w = .ok (.value u) w') ∨ ∃ x w', (execOp ρ o).run P w = .halt x w' := by
  unfold lightB at hp
  rw [Bool.or_eq_true] at hp
  rcases hp with hp | hp
  · exact calm_run w hp
  · unfold execOp
    split at hp <;> rename_i ho
    case h_5 => cases hp
    all_goals (simp only [ho]; exact value_run _ _)
/-- one path, or an operation that runs no code -/
def oneB (ops : Array Oper) (i : Nat) (ps : List (List Nat)) : Bool := decide (ps.length = 1) || (((ops[i]?).map lightB).getD false && decide (1 ≤ ps.length))
def pathsB (md : Region.Mode) (ops : Array Oper) : Nat → Array Bool → List (List Nat) → Bool
  | 0, listed, pss => (Region.ready md ops listed).isEmpty && pss.contains []
  | n + 1, listed, pss => if (Region.ready md ops listed).isEmpty then pss.contains [] else (Region.ready md ops listed).all fun i => oneB ops i ((pss.filter fun p => p.head? == some i).map List.tail) && pathsB md ops n (listed.setIfInBounds i true) ((pss.filter fun p => p.head? == some i).map List.tail)
def takenP (md : Region.Mode) (ops : Array Oper) (n : Nat) (pss : List (List Nat)) : List Nat → Array Bool → Bool
  | [], listed => pathsB md ops n listed pss
  | k :: hs, listed => (Region.ready md ops listed).contains k && Region.free md ops listed k && ((ops[k]?).map calmB).getD false && takenP md ops n pss hs (listed.setIfInBounds k true)
def Each (p : List Oper → Prop) : List (List Oper) → Prop
  | [] => True
  | [x] => p x
  | x :: xs => p x ∧ Each p xs
theorem Each.one {p : List Oper → Prop} {x : List Oper} (h : p x) : Each p [x] := h
theorem Each.cons {p : List Oper → Prop} {x : List Oper} {xs : List (List Oper)} (h : Each p (x :: xs)) : p x ∧ Each p xs := by
  cases xs with
  | nil => exact ⟨h, trivial⟩
  | cons y ys => exact h
theorem Each.all {p : List Oper → Prop} : ∀ {xs : List (List Oper)}, Each p xs → ∀ x ∈ xs, p x := by
  intro xs
  induction xs with
  | nil => intro _ x hx; cases hx
  | cons y ys ih =>
    intro h x hx
    have h' := h.cons
    rcases List.mem_cons.1 hx with rfl | hx
    · exact h'.1
    · exact ih h'.2 x hx
inductive PickAll (l : List Oper) : List (List Nat) → List (List Oper) → Prop
  | nil : PickAll l [] []
  | cons {ps : List Nat} {os : List Oper} {pss : List (List Nat)} {oss : List (List Oper)} : Picks l ps os → PickAll l pss oss → PickAll l (ps :: pss) (os :: oss)
theorem PickAll.get {l : List Oper} {pss : List (List Nat)} {oss : List (List Oper)} (h : PickAll l pss oss) : ∀ ps ∈ pss, ∃ os ∈ oss, Picks l ps os := by
  induction h with
  | nil => intro ps h; cases h
  | cons h1 _ ih =>
    intro ps hp
    rcases List.mem_cons.1 hp with rfl | hp
    · exact ⟨_, by simp, h1⟩
    · obtain ⟨os, ho, hk⟩ := ih ps hp
      exact ⟨os, by simp [ho], hk⟩
section
variable {P : Program} {md : Region.Mode} {l : List Oper} {Q : Exit → Act → World → Prop}
theorem wpAny_paths : ∀ (n : Nat) (listed : Array Bool) (pss : List (List Nat)) (a : Act) (w : World), pathsB md l.toArray n listed pss = true → (∀ ps ∈ pss, ∃ os, Picks l ps os ∧ wpList P l.toArray Q os a w) → wpAny P md l.toArray Q n listed a w := by
  intro n
  induction n with
  | zero =>
    intro listed pss a w hB h
    simp only [pathsB, Bool.and_eq_true, List.isEmpty_iff] at hB
    obtain ⟨os, ho, hw⟩ := h [] (by simpa using hB.2)
    cases ho
    exact ⟨hB.1, hw⟩
  | succ n ih =>
    intro listed pss a w hB h
    unfold pathsB at hB
    by_cases he : (Region.ready md l.toArray listed).isEmpty = true
    · rw [if_pos he] at hB
      have he' := List.isEmpty_iff.1 he
      obtain ⟨os, ho, hw⟩ := h [] (by simpa using hB)
      cases ho
      exact ⟨fun _ => hw, fun i hi => by rw [he'] at hi; cases hi⟩
    · rw [if_neg he] at hB
      have he' : Region.ready md l.toArray listed ≠ [] := fun e => he (by rw [e]; rfl)
      refine ⟨fun e => absurd e he', fun i hi => ?_⟩
      have hb := List.all_eq_true.1 hB i hi
      rw [Bool.and_eq_true] at hb
      obtain ⟨hone, hb⟩ := hb
      -- one path at least goes on with i
      have hex : ∀ ps ∈ (pss.filter fun p => p.head? == some i).map List.tail, ∃ o os, l.toArray[i]? = some o ∧ Picks l ps os ∧ wpList P l.toArray Q (o :: os) a w := by
        intro ps hps
        obtain ⟨qs, hq, rfl⟩ := List.mem_map.1 hps
        obtain ⟨hq1, hq2⟩ := List.mem_filter.1 hq
        obtain ⟨os, ho, hw⟩ := h qs hq1
        cases ho with
        | nil => simp at hq2
        | cons h0 hp =>
          rename_i k o ks os
          have hk : k = i := by simpa using hq2
          subst hk
          exact ⟨o, os, by simpa using h0.get, hp, hw⟩
      have hlt := (mem_ready.1 hi).2
      obtain ⟨o, ho, _⟩ := hlt
      have key : ∀ ps ∈ (pss.filter fun p => p.head? == some i).map List.tail, ∃ os, Picks l ps os ∧ wpList P l.toArray Q (o :: os) a w := by
        intro ps hps
        obtain ⟨o', os, e1, e2, e3⟩ := hex ps hps
        rw [ho] at e1
        cases e1
        exact ⟨os, e2, e3⟩
      generalize hps : (pss.filter fun p => p.head? == some i).map List.tail = qss at hone hb key
      unfold wpOp
      simp only [ho]
      unfold oneB at hone
      rw [Bool.or_eq_true] at hone
      unfold wpList at key
      by_cases hw : Region.wanted o (yielded l.toArray a.tmps) = true
      · simp only [hw, if_true] at key ⊢
        rcases hone with h1 | h1
        · have h1 := of_decide_eq_true h1
          obtain ⟨q, rfl⟩ : ∃ q, qss = [q] := by
            match qss, h1 with
            | [q], _ => exact ⟨q, rfl⟩
          obtain ⟨os, e2, e3⟩ := key q (by simp)
          exact e3.imp (Oper.wp_mono (fun a' w' h' => ih _ _ a' w' hb (fun ps hp => by
            obtain rfl : ps = q := by simpa using hp
            exact ⟨os, e2, h'⟩))) id
        · rw [Bool.and_eq_true, ho] at h1
          simp only [Option.map_some, Option.getD_some] at h1
          obtain ⟨hl, h1⟩ := h1
          have h1 := of_decide_eq_true h1
          by_cases has : o.asks P a w ∧ LetsOut Q
          · exact .inr has
          · left
            have key2 : ∀ ps ∈ qss, ∃ os, Picks l ps os ∧ o.wp P a w (wpList P l.toArray Q os) Q := by
              intro ps hp
              obtain ⟨os, e2, e3⟩ := key ps hp
              exact ⟨os, e2, e3.resolve_right has⟩
            unfold Oper.wp at key2 ⊢
            rcases light_run (P := P) (ρ := a.eval) w hl with ⟨u, w', e⟩ | ⟨x, w', e⟩
            · rw [e] at key2 ⊢
              exact ih _ _ _ _ hb key2
            · rw [e] at key2 ⊢
              obtain ⟨q, hq⟩ : ∃ q, q ∈ qss := by
                match qss, h1 with
                | q :: _, _ => exact ⟨q, by simp⟩
              obtain ⟨os, _, e3⟩ := key2 q hq
              cases x <;> exact e3
      · simp only [hw, Bool.false_eq_true, if_false] at key ⊢
        exact ih _ _ _ _ hb key
theorem wpAny_takenP (hs : Region.noSelect l.toArray = true) (hQ : ∀ c a (d : Nat) v w, Q (.panic c) (Act.put a (some d) v) w → Q (.panic c) a w) (n : Nat) (pss : List (List Nat)) (oss : List (List Oper)) (hk : PickAll l pss oss) : ∀ (hds : List Nat) (os : List Oper) (listed : Array Bool) (a : Act) (w : World), Picks l hds os → takenP md l.toArray n pss hds listed = true →
    wpQuiet P l.toArray AnyW (fun a' => Each (fun ks' => wpList P l.toArray Q ks' a' w) oss) os a → wpAny P md l.toArray Q (hds.length + n) listed a w := by
  intro hds
  induction hds with
  | nil =>
    intro os listed a w hp hB h
    cases hp
    rw [List.length_nil, Nat.zero_add]
    refine wpAny_paths n listed pss a w hB (fun ps hps => ?_)
    obtain ⟨os, ho, hp⟩ := hk.get ps hps
    exact ⟨os, hp, Each.all h os ho⟩
  | cons k hds ih =>
    intro os listed a w hp hB h
    cases hp with
    | cons h0' hp =>
      rename_i o os
      have h0 : l.toArray[k]? = some o := by simpa using h0'.get
      simp only [takenP, Bool.and_eq_true, h0, Option.map_some, Option.getD_some] at hB
      obtain ⟨⟨⟨hr, hf⟩, hpl⟩, hB'⟩ := hB
      rw [List.length_cons, Nat.add_right_comm]
      unfold wpQuiet at h
      by_cases hw : Region.wanted o (yielded l.toArray a.tmps) = true
      · rw [if_pos hw] at h
        obtain ⟨v, hy, hK⟩ := yields_calm hpl hw h
        exact wpAny_take h0 hs hf hr (fun c a w h => hput (hQ c) a _ _ w h) hy (ih os _ _ w hp hB' hK)
      · rw [if_neg hw] at h
        exact wpAny_take h0 hs hf hr (fun c a w h => hput (hQ c) a _ _ w h) (.inr ⟨by simpa using hw, rfl⟩) (ih os _ _ w hp hB' h)
theorem wp_region_paths {id : Nat} {a : Act} {w : World} (n : Nat) (hds : List Nat) (pss : List (List Nat)) {os : List Oper} {oss : List (List Oper)} (hm : P.follows .mixedOrders = true) (hl : hds.length + n = l.toArray.size) (hs : Region.noSelect l.toArray = true) (hB : takenP .any l.toArray n pss hds (Array.replicate l.toArray.size false) = true) (hp : Picks l hds os) (hk : PickAll l pss oss)
    (hQ : ∀ c a (d : Nat) v w, Q (.panic c) (Act.put a (some d) v) w → Q (.panic c) a w) (h : wpQuiet P l.toArray AnyW (fun a' => Each (fun ks' => wpList P l.toArray Q ks' a' w.drew) oss) os a) : (Code.region id l.toArray true).wp P Q a w := by
  refine wp_region_any hm ?_
  have := wpAny_takenP (P := P) (md := .any) (Q := Q) hs hQ n pss oss hk hds os _ a w.drew hp hB h
  rw [hl] at this
  exact this
end
end Go.Proofs.Ytihmmmodimionaa
