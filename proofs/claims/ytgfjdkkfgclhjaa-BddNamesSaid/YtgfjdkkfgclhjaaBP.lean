/- slices.IndexFunc, ContainsFunc, Index, Contains at []int; known. -/
import Derived.Test.YtgfjdkkfgclhjaaBO
namespace Go.Proofs.Ytgfjdkkfgclhjaa.Bd
open Go.RowKit Go.Proofs.Ytgfjdkkfgclhjaa Go.Proofs.Ytgfjdkkfgclhjaa.Lx Go.Maps

/-- the place of the first one, or -1 -/
def idxOf (p : Int → Bool) : List Int → Int
  | [] => -1
  | x :: xs => if p x then 0 else if idxOf p xs < 0 then -1 else idxOf p xs + 1
theorem idxOf_ge (p : Int → Bool) (l : List Int) : -1 ≤ idxOf p l ∧ idxOf p l < l.length := by
  induction l with
  | nil => simp [idxOf]
  | cons x xs ih =>
    simp only [idxOf, List.length_cons]
    split
    · omega
    · split <;> omega
theorem idxOf_any (p : Int → Bool) (l : List Int) : decide (0 ≤ idxOf p l) = l.any p := by
  induction l with
  | nil => rfl
  | cons x xs ih =>
    have := idxOf_ge p xs
    rw [Bool.eq_iff_iff, decide_eq_true_iff] at ih ⊢
    rw [List.any_cons, Bool.or_eq_true, ← ih]
    rw [show idxOf p (x :: xs) = if p x then 0 else if idxOf p xs < 0 then -1 else idxOf p xs + 1 from rfl]
    by_cases h : p x = true
    · rw [if_pos h]; simp [h]
    · rw [if_neg h]
      split
      · constructor
        · intro h1; omega
        · rintro (h1 | h1)
          · exact absurd h1 h
          · omega
      · constructor
        · intro h1; right; omega
        · intro h1; omega
theorem idxOf_none {p : Int → Bool} {l : List Int} (h : ∀ x ∈ l, p x = false) : idxOf p l = -1 := by
  induction l with
  | nil => rfl
  | cons x xs ih =>
    simp only [idxOf, h x (by simp), Bool.false_eq_true, if_false, ih (fun y hy => h y (by simp [hy]))]
    simp
theorem idxOf_at {p : Int → Bool} : ∀ {l : List Int} {i : Nat} {x : Int}, l[i]? = some x → p x = true → (∀ y ∈ l.take i, p y = false) → idxOf p l = i := by
  intro l
  induction l with
  | nil => intro i x h; simp at h
  | cons z zs ih =>
    intro i x h hp hall
    cases i with
    | zero =>
      have : z = x := by simpa using h
      subst this
      simp [idxOf, hp]
    | succ i =>
      have hz : p z = false := hall z (by simp)
      have := ih (i := i) (x := x) (by simpa using h) hp (fun y hy => hall y (by simp [hy]))
      simp only [idxOf, hz, Bool.false_eq_true, if_false, this]
      rw [if_neg (by omega)]
      omega
theorem src_at {w : World} {A : Option Addr} {m c : Nat} {l : List Int} (h : Src w A m c 1 (l.map encI)) {i : Nat} {x : Int} (hx : l[i]? = some x) : ∃ ad, A = some ad ∧ w.cell? (ad.add i) = some (.int .i64 x) := by
  obtain ⟨h1, ⟨_, h2, _⟩ | ⟨ad, h2, h3⟩⟩ := h
  · have := lt_of_some hx
    simp only [List.length_map] at h1
    omega
  · exact ⟨ad, h2, h3 i _ (by rw [List.getElem?_map, hx]; rfl)⟩
theorem src_len {w : World} {A : Option Addr} {m c : Nat} {l : List Int} (h : Src w A m c 1 (l.map encI)) : m = l.length := by
  have := h.1
  simp only [List.length_map] at this
  omega

set_option maxHeartbeats 1000000 in
set_option maxRecDepth 100000 in
theorem indexFunc_any (A : Option Addr) (c : Nat) (l : List Int) (M : FuncId) (caps : Array Value) (p : Int → Bool) (w : World) (hS : Src w A l.length c 1 (l.map encI)) (hn : l.length ≤ maxLen) (hcall : ∀ (xs : Array Value) (w : World), (callFunc M xs).run Try.prog w = .ok (.enter M xs) w)
    (hM : ∀ x ∈ l, Calls Try.prog M (#[.int .i64 x] ++ caps) w fun e w' => e = .returned (.bool (p x)) ∧ w = w') :
    Calls Try.prog 62 #[.slice A l.length c, .func (.func M) #[] caps] w fun e w' => e = .returned (.int .i64 (idxOf p l)) ∧ w = w' := by
  have HS := hide hS
  have HM := hide hM
  unfold maxLen at hn
  clear hS hM
  go_enter Try.func62, Try.ntmps62
  go_wp2_with fail
  go_loop [5, 8] (fun _ j => ∃ i : Nat, j = .int .i64 i ∧ i ≤ l.length ∧ ∀ x ∈ l.take i, p x = false) (fun _ j => l.length - (intOf j).toNat)
  case atStart => exact ⟨0, rfl, Nat.zero_le _, by simp⟩
  case round =>
    obtain ⟨i, rfl, hi, hall⟩ := hrel
    rcases Nat.lt_or_ge i l.length with hlt | hge
    · obtain ⟨x, hx⟩ : ∃ x, l[i]? = some x := ⟨_, List.getElem?_eq_getElem hlt⟩
      have d1 : decide (i < l.length) = true := by simpa using hlt
      have d2 : ((i : Int) < l.length) := by omega
      obtain ⟨ad, rfl, hc⟩ := src_at HS.out hx
      have HX := hide (HM.out x (List.mem_of_getElem? hx))
      cases hp : p x with
      | false =>
        rw [hp] at HX
        have HV : Hid (∀ y ∈ l.take (i + 1), p y = false) := by
          intro y hy
          rw [List.take_add_one, hx] at hy
          rcases List.mem_append.1 hy with h | h
          · exact hall y h
          · have : y = x := by simpa using h
            rw [this]; exact hp
        clear hall
        go_wp2_with ((with_reducible refine HX.out.mono ?_); rintro e w' ⟨rfl, rfl⟩)
        go_round
        case rel => exact ⟨i + 1, by go_num, by omega, HV.out⟩
        case measure => simp [intOf]; omega
      | true =>
        rw [hp] at HX
        have HV := hide (idxOf_at hx hp hall)
        clear hall
        go_wp2_with ((with_reducible refine HX.out.mono ?_); rintro e w' ⟨rfl, rfl⟩)
        go_ret
        exact ⟨by rw [HV.out]; rfl, rfl⟩
    · have e : i = l.length := by omega
      have d1 : decide (i < l.length) = false := by simp; omega
      subst e
      have HV := hide (idxOf_none (p := p) (l := l) (by simpa using hall))
      clear hall
      go_wp2_with fail
      go_ret
      exact ⟨by rw [HV.out]; rfl, rfl⟩
set_option maxRecDepth 100000 in
theorem containsFunc_any (A : Option Addr) (c : Nat) (l : List Int) (M : FuncId) (caps : Array Value) (p : Int → Bool) (w : World) (hS : Src w A l.length c 1 (l.map encI)) (hn : l.length ≤ maxLen) (hcall : ∀ (xs : Array Value) (w : World), (callFunc M xs).run Try.prog w = .ok (.enter M xs) w)
    (hM : ∀ x ∈ l, Calls Try.prog M (#[.int .i64 x] ++ caps) w fun e w' => e = .returned (.bool (p x)) ∧ w = w') :
    Calls Try.prog 51 #[.slice A l.length c, .func (.func M) #[] caps] w fun e w' => e = .returned (.bool (l.any p)) ∧ w = w' := by
  have HI := hide (indexFunc_any A c l M caps p w hS hn hcall hM)
  have HV := hide (idxOf_any p l)
  clear hS hM hcall
  generalize idxOf p l = v at *
  go_enter Try.func51, Try.ntmps51
  go_wp2_with ((with_reducible refine HI.out.mono ?_); rintro e w' ⟨rfl, rfl⟩)
  go_ret
  exact ⟨by rw [← HV.out]; rfl, rfl⟩
set_option maxHeartbeats 1000000 in
set_option maxRecDepth 100000 in
theorem index_any (A : Option Addr) (c : Nat) (l : List Int) (v : Int) (w : World) (hS : Src w A l.length c 1 (l.map encI)) (hn : l.length ≤ maxLen) :
    Calls Try.prog 31 #[.slice A l.length c, .int .i64 v] w fun e w' => e = .returned (.int .i64 (idxOf (fun x => v == x) l)) ∧ w = w' := by
  have HS := hide hS
  unfold maxLen at hn
  clear hS
  go_enter Try.func31, Try.ntmps31
  go_wp2_with fail
  go_loop [5, 8] (fun _ j => ∃ i : Nat, j = .int .i64 i ∧ i ≤ l.length ∧ ∀ x ∈ l.take i, (v == x) = false) (fun _ j => l.length - (intOf j).toNat)
  case atStart => exact ⟨0, rfl, Nat.zero_le _, by simp⟩
  case round =>
    obtain ⟨i, rfl, hi, hall⟩ := hrel
    rcases Nat.lt_or_ge i l.length with hlt | hge
    · obtain ⟨x, hx⟩ : ∃ x, l[i]? = some x := ⟨_, List.getElem?_eq_getElem hlt⟩
      have d1 : decide (i < l.length) = true := by simpa using hlt
      have d2 : ((i : Int) < l.length) := by omega
      obtain ⟨ad, rfl, hc⟩ := src_at HS.out hx
      cases hp : (v == x) with
      | false =>
        have HV : Hid (∀ y ∈ l.take (i + 1), (v == y) = false) := by
          intro y hy
          rw [List.take_add_one, hx] at hy
          rcases List.mem_append.1 hy with h | h
          · exact hall y h
          · have : y = x := by simpa using h
            rw [this]; exact hp
        clear hall
        go_wp2_with fail
        go_round
        case rel => exact ⟨i + 1, by go_num, by omega, HV.out⟩
        case measure => simp [intOf]; omega
      | true =>
        have HV := hide (idxOf_at (p := fun x => v == x) hx hp hall)
        clear hall
        go_wp2_with fail
        go_ret
        exact ⟨by rw [HV.out]; rfl, rfl⟩
    · have e : i = l.length := by omega
      have d1 : decide (i < l.length) = false := by simp; omega
      subst e
      have HV := hide (idxOf_none (p := fun x => v == x) (l := l) (by simpa using hall))
      clear hall
      go_wp2_with fail
      go_ret
      exact ⟨by rw [HV.out]; rfl, rfl⟩
set_option maxRecDepth 100000 in
theorem contains_any (A : Option Addr) (c : Nat) (l : List Int) (v : Int) (w : World) (hS : Src w A l.length c 1 (l.map encI)) (hn : l.length ≤ maxLen) :
    Calls Try.prog 53 #[.slice A l.length c, .int .i64 v] w fun e w' => e = .returned (.bool (l.any fun x => v == x)) ∧ w = w' := by
  have HI := hide (index_any A c l v w hS hn)
  have HV := hide (idxOf_any (fun x => v == x) l)
  clear hS
  generalize idxOf (fun x => v == x) l = z at *
  go_enter Try.func53, Try.ntmps53
  go_wp2_with ((with_reducible refine HI.out.mono ?_); rintro e w' ⟨rfl, rfl⟩)
  go_ret
  exact ⟨by rw [← HV.out]; rfl, rfl⟩

theorem call_enter {P : Program} {f : FuncId} {fn : Func} (hf : P.funcs[f]? = some fn) (hname : (fn.name == "runtime.NumGoroutine") = false) (hb : fn.body.isSome = true) (xs : Array Value) (w : World) : (callFunc f xs).run P w = .ok (.enter f xs) w := by
  obtain ⟨c, hc⟩ := Option.isSome_iff_exists.1 hb
  have h1 : fn.name ≠ "runtime.NumGoroutine" := by simpa using hname
  simp [callFunc, hf, h1, hc]
/-! ### known -/
def outB (vs : Nat) (x : Int) : Bool := decide (x < 0) || decide ((vs : Int) ≤ x)
def knownB (vs : Nat) (l : List Int) : Bool := !l.any (outB vs)
theorem call_known (xs : Array Value) (w : World) : (callFunc 54 xs).run Try.prog w = .ok (.enter 54 xs) w := by
  exact call_enter Try.func54 (by kernel_rfl) (by kernel_rfl) xs w
set_option maxRecDepth 100000 in
theorem known1_any (k : Blk) (s : St) (x : Int) (b : Nat) (w : World) (hb : w.cell? ⟨b, 0, none⟩ = some (.pointer (some ⟨k.p, 0, none⟩))) (h0 : w.cell? ⟨k.p, 0, none⟩ = some (.int .i64 s.vs)) :
    Calls Try.prog 54 #[.int .i64 x, .pointer (some ⟨b, 0, none⟩)] w fun e w' => e = .returned (.bool (outB s.vs x)) ∧ w = w' := by
  cases d1 : decide (x < 0)
  · cases d2 : decide ((s.vs : Int) ≤ x)
    all_goals (
      have HV := hide (show outB s.vs x = (false || _) from by unfold outB; rw [d1, d2])
      go_enter Try.func54, Try.ntmps54
      go_wp2_with fail
      go_ret
      exact ⟨by rw [HV.out]; rfl, rfl⟩)
  · have HV := hide (show outB s.vs x = true from by unfold outB; rw [d1]; rfl)
    go_enter Try.func54, Try.ntmps54
    go_wp2_with fail
    go_ret
    exact ⟨by rw [HV.out]; rfl, rfl⟩
set_option maxRecDepth 100000 in
theorem known_any (k : Blk) (s : St) (A : Option Addr) (c : Nat) (l : List Int) (w : World) (hA : Ar w k s) (hS : Src w A l.length c 1 (l.map encI)) (hn : l.length ≤ maxLen) :
    Calls Try.prog 36 #[.pointer (some ⟨k.p, 0, none⟩), .slice A l.length c] w fun e w' => e = .returned (.bool (knownB s.vs l)) ∧ Below w.heap.size w w' := by
  obtain ⟨fb, ft, H, I⟩ := hA
  have hbl := bel_one w (.cells #[.pointer (some ⟨k.p, 0, none⟩)] 24)
  have c0 := (H.below hbl).c0
  have hb := cell_heap (j := 0) (heap_new w (.cells #[.pointer (some ⟨k.p, 0, none⟩)] 24)) rfl
  have HC := hide (containsFunc_any A c l 54 #[.pointer (some ⟨w.heap.size, 0, none⟩)] (outB s.vs) _ (hS.below hbl) hn call_known (fun x _ => known1_any k s x w.heap.size _ hb c0))
  have HV := hide (show knownB s.vs l = !(l.any (outB s.vs)) from rfl)
  have HB := hide hbl
  generalize knownB s.vs l = v at *
  generalize l.any (outB s.vs) = z at *
  clear H I hS hbl c0 hb
  go_enter Try.func36, Try.ntmps36
  go_wp2_with ((with_reducible refine HC.out.mono ?_); rintro e w' ⟨rfl, rfl⟩)
  go_ret
  exact ⟨by rw [HV.out]; rfl, HB.out⟩
end Go.Proofs.Ytgfjdkkfgclhjaa.Bd
