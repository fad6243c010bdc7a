/- Maps of the call's own whose elements are integers or bools, told by a function on keys. No program is in sight. -/
import Derived.Maps.OwnSet
import Derived.WalkSpells
namespace Go.Proofs.Ytgfjdkkfgclhjaa.Bd
open Go Go.Maps

variable {P : Program} {w : World} {k e t : TypeId} {q : IntKind} {b n N : Nat} {α : Type} {en : α → Value}

/-- block b: keys of type k read through f; elements: integers of kind q -/
def MInt (P : Program) (w : World) (k e : TypeId) (q : IntKind) (b n : Nat) (en : α → Value) (f : α → Option Int) : Prop :=
  ∃ D : DataW Unit, w.ownsMap P k (plainElem P e) b n D ∧ ∀ x kl, keyOf P k (en x) = some kl → Maps.has D kl = (f x).isSome ∧ ∀ c, f x = some c → D.atKey kl (.lit (.int q 0)) = .lit (.int q c)
/-- block b: the set of the keys at which f is true -/
def MSet (P : Program) (w : World) (k e : TypeId) (b n N : Nat) (en : α → Value) (f : α → Bool) : Prop :=
  ∃ D : DataW Unit, w.ownsMap P k (plainElem P e) b n D ∧ Maps.size D = N ∧ ∀ x kl, keyOf P k (en x) = some kl → Maps.has D kl = f x ∧ D.atKey kl (.lit (.bool false)) = .lit (.bool (f x))

theorem MInt.made (w : World) (k e : TypeId) (q : IntKind) (en : α → Value) : MInt P (w.alloc (.map #[] 0)) k e q w.heap.size 0 en (fun _ => none) :=
  ⟨.map [], World.ownsMap_made w P k _, fun _ _ _ => ⟨rfl, fun _ h => by cases h⟩⟩
theorem MSet.made (w : World) (k e : TypeId) (en : α → Value) : MSet P (w.alloc (.map #[] 0)) k e w.heap.size 0 0 en (fun _ => false) :=
  ⟨.map [], World.ownsMap_made w P k _, rfl, fun _ _ _ => ⟨rfl, rfl⟩⟩
theorem MInt.kept {w' : World} {row : Option Nat} {f : α → Option Int} (h : MInt P w k e q b n en f) (hg : w.grownBy w' row) (hne : some b ≠ row) : MInt P w' k e q b n en f := by
  obtain ⟨D, h1, h2⟩ := h
  exact ⟨D, h1.kept hg hne, h2⟩
theorem MSet.kept {w' : World} {row : Option Nat} {f : α → Bool} (h : MSet P w k e b n N en f) (hg : w.grownBy w' row) (hne : some b ≠ row) : MSet P w' k e b n N en f := by
  obtain ⟨D, h1, h2⟩ := h
  exact ⟨D, h1.kept hg hne, h2⟩
theorem MInt.lt {f : α → Option Int} (h : MInt P w k e q b n en f) : b < w.heap.size := by obtain ⟨D, h1, _⟩ := h; exact h1.lt
theorem MSet.lt {f : α → Bool} (h : MSet P w k e b n N en f) : b < w.heap.size := by obtain ⟨D, h1, _⟩ := h; exact h1.lt
theorem MInt.mono {n' : Nat} {f : α → Option Int} (h : MInt P w k e q b n en f) (hn : n ≤ n') : MInt P w k e q b n' en f := by
  obtain ⟨D, h1, h2⟩ := h
  exact ⟨D, h1.mono hn, h2⟩
theorem MSet.mono {n' : Nat} {f : α → Bool} (h : MSet P w k e b n N en f) (hn : n ≤ n') : MSet P w k e b n' N en f := by
  obtain ⟨D, h1, h2⟩ := h
  exact ⟨D, h1.mono hn, h2⟩
theorem MInt.setCell {f : α → Option Int} (h : MInt P w k e q b n en f) {a : Addr} (ha : b ≠ a.block) (u : Value) : MInt P (w.setCell a u) k e q b n en f := by
  obtain ⟨D, h1, h2⟩ := h
  exact ⟨D, h1.setCell ha u, h2⟩
theorem MSet.setCell {f : α → Bool} (h : MSet P w k e b n N en f) {a : Addr} (ha : b ≠ a.block) (u : Value) : MSet P (w.setCell a u) k e b n N en f := by
  obtain ⟨D, h1, h2⟩ := h
  exact ⟨D, h1.setCell ha u, h2⟩
/-- how many entries there are bounds them -/
theorem MSet.tight {f : α → Bool} (h : MSet P w k e b n N en f) : MSet P w k e b N N en f := by
  obtain ⟨D, ⟨es, clock, hb, F, hs, hD⟩, hN, h2⟩ := h
  refine ⟨D, ⟨es, clock, hb, F, ?_, hD⟩, hN, h2⟩
  have : Maps.size D = es.size := by rw [hD]; simp [Maps.size, length_sorted]
  omega
theorem plainElem_bool_inv {H : Type} (he : P.underlying e = some .bool) {v : Value} {z : DataW H × List MemPlace} (h : plainElem P e v = some z) : ∃ x, v = .bool x ∧ z = (.lit (.bool x), []) := by
  unfold plainElem at h
  rw [he] at h
  cases v <;> simp at h
  subst h
  exact ⟨_, rfl, rfl⟩

/-- 'v, ok := m[k]' -/
theorem MInt.look {f : α → Option Int} (h : MInt P w k e q b n en f) (K : Keyed P k) (ht : P.underlying t = some (.map k e)) (he : P.underlying e = some (.int q)) (hz : (zeroValue e).run P w = .ok (.int q 0) w) {key : α} {kl : Lit} (hkey : keyOf P k (en key) = some kl) :
    (Instr.lookup t (.map (some b)) (en key) true).run P w = .ok (.tuple #[.int q ((f key).getD 0), .bool (f key).isSome]) w := by
  obtain ⟨D, h1, h2⟩ := h
  have hw0 : (Lit.int q 0).wf = true := by cases q <;> decide
  obtain ⟨v, ps, hrun, hv⟩ := h1.look_ok K ht hz (plainElem_int he hw0) hkey
  obtain ⟨c, rfl, hc, _⟩ := plainElem_int_inv he hv
  obtain ⟨g1, g2⟩ := h2 key kl hkey
  have hc1 := congrArg Prod.fst hc
  simp only at hc1
  rw [g1] at hrun
  cases hf : f key with
  | none =>
    rw [hf] at g1
    rw [atKey_of_not_has g1] at hc1
    cases hc1
    rw [hrun, hf]; rfl
  | some c' =>
    rw [g2 c' hf] at hc1
    cases hc1
    rw [hrun, hf]; rfl
/-- 'm[k]' -/
theorem MSet.look {f : α → Bool} (h : MSet P w k e b n N en f) (K : Keyed P k) (ht : P.underlying t = some (.map k e)) (he : P.underlying e = some .bool) (hz : (zeroValue e).run P w = .ok (.bool false) w) {key : α} {kl : Lit} (hkey : keyOf P k (en key) = some kl) :
    (Instr.lookup t (.map (some b)) (en key) false).run P w = .ok (.bool (f key)) w := by
  obtain ⟨D, h1, hN, h2⟩ := h
  obtain ⟨v, ps, hrun, hv⟩ := h1.lookup K ht hz (plainElem_bool he false) hkey
  obtain ⟨c, rfl, hc⟩ := plainElem_bool_inv he hv
  have hc1 := congrArg Prod.fst hc
  simp only [(h2 key kl hkey).2] at hc1
  cases hc1
  exact hrun
/-- 'm[k] = v' -/
theorem MInt.store [DecidableEq α] {f : α → Option Int} (h : MInt P w k e q b n en f) (K : Keyed P k) (ht : P.underlying t = some (.map k e)) (he : P.underlying e = some (.int q)) (hn : n < maxLen) (inj : ∀ x y, en x = en y → x = y) {key : α} {kl : Lit} (hkey : keyOf P k (en key) = some kl) {c : Int} (hc : (Lit.int q c).wf = true) :
    ∃ w', (Instr.mapUpdate t (.map (some b)) (en key) (.int q c)).run P w = .ok () w' ∧ MInt P w' k e q b (n + 1) en (fun x => if x = key then some c else f x) ∧ w.mapTurned w' b := by
  obtain ⟨D, h1, h2⟩ := h
  obtain ⟨w', hrun, g1, g2⟩ := h1.store K ht hn hkey (plainElem_int he hc)
  refine ⟨w', hrun, ⟨_, g1, fun key' kl' hkey' => ?_⟩, g2⟩
  have hD := (h1.tidy K).isMap
  by_cases hq : key' = key
  · subst hq
    obtain rfl : kl' = kl := Option.some.inj (hkey'.symm.trans hkey)
    refine ⟨by rw [has_put_same hD (K.key hkey)]; simp, fun c' hc' => ?_⟩
    simp only [if_true] at hc'
    cases hc'
    exact atKey_put_same hD (K.key hkey) _ _
  · have hne : kl' ≠ kl := fun e => hq (inj _ _ (K.inj hkey' (e ▸ hkey)))
    rw [has_put_other hne, atKey_put_other hne]
    simp only [if_neg hq]
    exact h2 key' kl' hkey'
theorem MSet.store [DecidableEq α] {f : α → Bool} (h : MSet P w k e b n N en f) (K : Keyed P k) (ht : P.underlying t = some (.map k e)) (he : P.underlying e = some .bool) (hn : n < maxLen) (inj : ∀ x y, en x = en y → x = y) {key : α} {kl : Lit} (hkey : keyOf P k (en key) = some kl) :
    ∃ w', (Instr.mapUpdate t (.map (some b)) (en key) (.bool true)).run P w = .ok () w' ∧ MSet P w' k e b (n + 1) (if f key then N else N + 1) en (fun x => decide (x = key) || f x) ∧ w.mapTurned w' b := by
  obtain ⟨D, h1, hN, h2⟩ := h
  obtain ⟨w', hrun, g1, g2⟩ := h1.store K ht hn hkey (plainElem_bool he true)
  have hT := h1.tidy K
  have hD := hT.isMap
  refine ⟨w', hrun, ⟨_, g1, ?_, fun key' kl' hkey' => ?_⟩, g2⟩
  · rw [size_put hT, (h2 key kl hkey).1, hN]
  · by_cases hq : key' = key
    · subst hq
      obtain rfl : kl' = kl := Option.some.inj (hkey'.symm.trans hkey)
      rw [has_put_same hD (K.key hkey), atKey_put_same hD (K.key hkey)]
      simp
    · have hne : kl' ≠ kl := fun e => hq (inj _ _ (K.inj hkey' (e ▸ hkey)))
      rw [has_put_other hne, atKey_put_other hne]
      simp only [decide_eq_false hq, Bool.false_or]
      exact h2 key' kl' hkey'
/-- 'len(m)' -/
theorem MSet.len {f : α → Bool} (h : MSet P w k e b n N en f) (ht : P.underlying t = some (.map k e)) (ty : TypeId) : (Builtin.len_ #[t] ty #[.map (some b)]).run P w = .ok (.int .i64 N) w := by
  obtain ⟨D, h1, hN, _⟩ := h
  rw [h1.len ht ty, hN]

/-! ### at the operation -/
section
variable {ops : Array Oper} {rest : List Oper} {o : Oper} {a : Act} {Q : Exit → Act → World → Prop}
theorem wpList_look (hg : o.guard = none) (m x : Operand) (hop : o.op = Op.lookup t m x true) {f : α → Option Int} (h : MInt P w k e q b n en f) (K : Keyed P k) (ht : P.underlying t = some (.map k e)) (he : P.underlying e = some (.int q)) (hz : (zeroValue e).run P w = .ok (.int q 0) w)
    (hm : a.eval m = .map (some b)) (key : α) (kl : Lit) (hx : a.eval x = en key) (hkey : keyOf P k (en key) = some kl)
    (hK : wpList P ops Q rest (a.put o.dst (.tuple #[.int q ((f key).getD 0), .bool (f key).isSome])) w) : wpList P ops Q (o :: rest) a w := by
  refine wpList_plain hg fun K' hK' => ?_
  have hrun := h.look K ht he hz hkey
  unfold Oper.wp
  simp [execOp, hop, hm, hx, hrun, Result.andThen]
  exact hK' _ _ hK
theorem wpList_has (hg : o.guard = none) (m x : Operand) (hop : o.op = Op.lookup t m x false) {f : α → Bool} (h : MSet P w k e b n N en f) (K : Keyed P k) (ht : P.underlying t = some (.map k e)) (he : P.underlying e = some .bool) (hz : (zeroValue e).run P w = .ok (.bool false) w)
    (hm : a.eval m = .map (some b)) (key : α) (kl : Lit) (hx : a.eval x = en key) (hkey : keyOf P k (en key) = some kl)
    (hK : wpList P ops Q rest (a.put o.dst (.bool (f key))) w) : wpList P ops Q (o :: rest) a w := by
  refine wpList_plain hg fun K' hK' => ?_
  have hrun := h.look K ht he hz hkey
  unfold Oper.wp
  simp [execOp, hop, hm, hx, hrun, Result.andThen]
  exact hK' _ _ hK
theorem wpList_put [DecidableEq α] (hg : o.guard = none) (m x v : Operand) (hop : o.op = Op.mapUpdate t m x v) {f : α → Option Int} (h : MInt P w k e q b n en f) (K : Keyed P k) (ht : P.underlying t = some (.map k e)) (he : P.underlying e = some (.int q)) (hn : n < maxLen) (inj : ∀ x y, en x = en y → x = y)
    (hm : a.eval m = .map (some b)) (key : α) (kl : Lit) (hx : a.eval x = en key) (hkey : keyOf P k (en key) = some kl) (c : Int) (hv : a.eval v = .int q c) (hc : (Lit.int q c).wf = true)
    (hK : ∀ w', MInt P w' k e q b (n + 1) en (fun x => if x = key then some c else f x) → w.mapTurned w' b → wpList P ops Q rest (a.put o.dst undef) w') : wpList P ops Q (o :: rest) a w := by
  refine wpList_plain hg fun K' hK' => ?_
  obtain ⟨w', hrun, r1, r2⟩ := h.store K ht he hn inj hkey hc
  unfold Oper.wp
  simp [execOp, hop, hm, hx, hv, hrun, Result.andThen]
  exact hK' _ _ (hK w' r1 r2)
theorem wpList_add [DecidableEq α] (hg : o.guard = none) (m x v : Operand) (hop : o.op = Op.mapUpdate t m x v) {f : α → Bool} (h : MSet P w k e b n N en f) (K : Keyed P k) (ht : P.underlying t = some (.map k e)) (he : P.underlying e = some .bool) (hn : n < maxLen) (inj : ∀ x y, en x = en y → x = y)
    (hm : a.eval m = .map (some b)) (key : α) (kl : Lit) (hx : a.eval x = en key) (hkey : keyOf P k (en key) = some kl) (hv : a.eval v = .bool true)
    (hK : ∀ w', MSet P w' k e b (n + 1) (if f key then N else N + 1) en (fun x => decide (x = key) || f x) → w.mapTurned w' b → wpList P ops Q rest (a.put o.dst undef) w') : wpList P ops Q (o :: rest) a w := by
  refine wpList_plain hg fun K' hK' => ?_
  obtain ⟨w', hrun, r1, r2⟩ := h.store K ht he hn inj hkey
  unfold Oper.wp
  simp [execOp, hop, hm, hx, hv, hrun, Result.andThen]
  exact hK' _ _ (hK w' r1 r2)
theorem wpList_ins [DecidableEq α] (hg : o.guard = none) (m x v : Operand) (hop : o.op = Op.insert t m x v) {f : α → Bool} (h : MSet P w k e b n N en f) (K : Keyed P k) (ht : P.underlying t = some (.map k e)) (he : P.underlying e = some .bool) (hn : n < maxLen) (inj : ∀ x y, en x = en y → x = y)
    (hm : a.eval m = .map (some b)) (key : α) (kl : Lit) (hx : a.eval x = en key) (hkey : keyOf P k (en key) = some kl) (hv : a.eval v = .bool true)
    (hK : ∀ w', MSet P w' k e b (n + 1) (if f key then N else N + 1) en (fun x => decide (x = key) || f x) → w.mapTurned w' b → wpList P ops Q rest (a.put o.dst undef) w') : wpList P ops Q (o :: rest) a w := by
  refine wpList_plain hg fun K' hK' => ?_
  obtain ⟨w', hrun, r1, r2⟩ := h.store K ht he hn inj hkey
  unfold Oper.wp
  simp [execOp, hop, hm, hx, hv, hrun, Result.andThen]
  exact hK' _ _ (hK w' r1 r2)
end
end Go.Proofs.Ytgfjdkkfgclhjaa.Bd
