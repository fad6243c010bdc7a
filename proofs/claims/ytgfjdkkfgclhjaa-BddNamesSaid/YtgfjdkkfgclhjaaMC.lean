/- Maps of the call's own whose elements are two uint64, told by a function on keys. No program is in sight. -/
import Derived.Test.YtgfjdkkfgclhjaaMM
namespace Go.Proofs.Ytgfjdkkfgclhjaa.Bd
open Go Go.Maps

abbrev Cn := Nat × Nat
def cEl (c : Cn) : Value := .agg #[.int .u64 c.1, .int .u64 c.2]
def cDt (c : Cn) : DataW Unit := .agg [.lit (.int .u64 c.1), .lit (.int .u64 c.2)]
def cRd (v : Value) : Option (DataW Unit × List MemPlace) :=
  match v with
  | .agg ⟨[.int .u64 h, .int .u64 l]⟩ => some (.agg [.lit (.int .u64 h), .lit (.int .u64 l)], [])
  | _ => none
theorem cRd_el (c : Cn) : cRd (cEl c) = some (cDt c, []) := rfl
theorem cRd_inv {v : Value} {z : DataW Unit × List MemPlace} (h : cRd v = some z) : ∃ a b : Int, v = .agg #[.int .u64 a, .int .u64 b] ∧ z.1 = .agg [.lit (.int .u64 a), .lit (.int .u64 b)] := by
  unfold cRd at h
  split at h
  · cases h; exact ⟨_, _, rfl, rfl⟩
  · cases h
theorem cRd_dt {v : Value} {z : DataW Unit × List MemPlace} (h : cRd v = some z) {c : Cn} (hz : z.1 = cDt c) : v = cEl c := by
  obtain ⟨a, b, rfl, e⟩ := cRd_inv h
  rw [e] at hz
  unfold cDt at hz
  simp only [DataW.agg.injEq, List.cons.injEq, DataW.lit.injEq, Lit.int.injEq, true_and, and_true] at hz
  obtain ⟨h1, h2⟩ := hz
  subst h1 h2
  rfl
variable {P : Program} {w : World} {k e t : TypeId} {b n : Nat} {α : Type} {en : α → Value}
/-- block b: keys read through f; elements: pairs of uint64 -/
def MCnt (P : Program) (w : World) (k : TypeId) (b n : Nat) (en : α → Value) (f : α → Option Cn) : Prop :=
  ∃ D : DataW Unit, w.ownsMap P k cRd b n D ∧ ∀ x kl, keyOf P k (en x) = some kl → Maps.has D kl = (f x).isSome ∧ ∀ c, f x = some c → D.atKey kl (cDt (0, 0)) = cDt c
theorem MCnt.made (w : World) (k : TypeId) (en : α → Value) : MCnt P (w.alloc (.map #[] 0)) k w.heap.size 0 en (fun _ => none) :=
  ⟨.map [], World.ownsMap_made w P k _, fun _ _ _ => ⟨rfl, fun _ h => by cases h⟩⟩
theorem MCnt.kept {w' : World} {row : Option Nat} {f : α → Option Cn} (h : MCnt P w k b n en f) (hg : w.grownBy w' row) (hne : some b ≠ row) : MCnt P w' k b n en f := by
  obtain ⟨D, h1, h2⟩ := h
  exact ⟨D, h1.kept hg hne, h2⟩
theorem MCnt.lt {f : α → Option Cn} (h : MCnt P w k b n en f) : b < w.heap.size := by obtain ⟨D, h1, _⟩ := h; exact h1.lt
theorem MCnt.setCell {f : α → Option Cn} (h : MCnt P w k b n en f) {a : Addr} (ha : b ≠ a.block) (u : Value) : MCnt P (w.setCell a u) k b n en f := by
  obtain ⟨D, h1, h2⟩ := h
  exact ⟨D, h1.setCell ha u, h2⟩
theorem MCnt.heap {f : α → Option Cn} (h : MCnt P w k b n en f) : ∃ es cl, w.heap[b]? = some (.map es cl) := by
  obtain ⟨D, ⟨es, cl, hb, _⟩, _⟩ := h
  exact ⟨es, cl, hb⟩
theorem MCnt.look {f : α → Option Cn} (h : MCnt P w k b n en f) (K : Keyed P k) (ht : P.underlying t = some (.map k e)) (hz : (zeroValue e).run P w = .ok (cEl (0, 0)) w) {key : α} {kl : Lit} (hkey : keyOf P k (en key) = some kl) :
    (Instr.lookup t (.map (some b)) (en key) true).run P w = .ok (.tuple #[cEl ((f key).getD (0, 0)), .bool (f key).isSome]) w := by
  obtain ⟨D, h1, h2⟩ := h
  obtain ⟨v, ps, hrun, hv⟩ := h1.look_ok K ht hz (cRd_el (0, 0)) hkey
  obtain ⟨g1, g2⟩ := h2 key kl hkey
  rw [g1] at hrun
  cases hf : f key with
  | none =>
    rw [hf] at g1
    rw [atKey_of_not_has g1] at hv
    have := cRd_dt hv (c := (0, 0)) rfl
    subst this
    rw [hrun, hf]; rfl
  | some c' =>
    rw [g2 c' hf] at hv
    have := cRd_dt hv (c := c') rfl
    subst this
    rw [hrun, hf]; rfl
theorem MCnt.store [DecidableEq α] {f : α → Option Cn} (h : MCnt P w k b n en f) (K : Keyed P k) (ht : P.underlying t = some (.map k e)) (hn : n < maxLen) (inj : ∀ x y, en x = en y → x = y) {key : α} {kl : Lit} (hkey : keyOf P k (en key) = some kl) (c : Cn) :
    ∃ w', (Instr.mapUpdate t (.map (some b)) (en key) (cEl c)).run P w = .ok () w' ∧ MCnt P w' k b (n + 1) en (fun x => if x = key then some c else f x) ∧ w.mapTurned w' b := by
  obtain ⟨D, h1, h2⟩ := h
  obtain ⟨w', hrun, g1, g2⟩ := h1.store K ht hn hkey (cRd_el c)
  refine ⟨w', hrun, ⟨_, g1, fun key' kl' hkey' => ?_⟩, g2⟩
  have hD := (h1.tidy K).isMap
  by_cases hq : key' = key
  · subst hq
    obtain rfl : kl' = kl := Option.some.inj (hkey'.symm.trans hkey)
    refine ⟨by rw [has_put_same hD (K.key hkey)]; simp, fun c' hc' => ?_⟩
    simp only [if_true] at hc'
    cases hc'
    exact atKey_put_same hD (K.key hkey) _ _
  · have hne : kl' ≠ kl := fun e => hq (inj _ _ (K.inj hkey' (e ▸ hkey)))
    rw [has_put_other hne, atKey_put_other hne]
    simp only [if_neg hq]
    exact h2 key' kl' hkey'
section
variable {ops : Array Oper} {rest : List Oper} {o : Oper} {a : Act} {Q : Exit → Act → World → Prop}
theorem wpList_putC [DecidableEq α] (hg : o.guard = none) (m x v : Operand) (hop : o.op = Op.mapUpdate t m x v) {f : α → Option Cn} (h : MCnt P w k b n en f) (K : Keyed P k) (ht : P.underlying t = some (.map k e)) (hn : n < maxLen) (inj : ∀ x y, en x = en y → x = y)
    (hm : a.eval m = .map (some b)) (key : α) (kl : Lit) (hx : a.eval x = en key) (hkey : keyOf P k (en key) = some kl) (c : Cn) (hv : a.eval v = cEl c)
    (hK : ∀ w', MCnt P w' k b (n + 1) en (fun x => if x = key then some c else f x) → w.mapTurned w' b → wpList P ops Q rest (a.put o.dst undef) w') : wpList P ops Q (o :: rest) a w := by
  refine wpList_plain hg fun K' hK' => ?_
  obtain ⟨w', hrun, r1, r2⟩ := h.store K ht hn inj hkey c
  unfold Oper.wp
  simp [execOp, hop, hm, hx, hv, hrun, Result.andThen]
  exact hK' _ _ (hK w' r1 r2)
theorem wpList_insC [DecidableEq α] (hg : o.guard = none) (m x v : Operand) (hop : o.op = Op.insert t m x v) {f : α → Option Cn} (h : MCnt P w k b n en f) (K : Keyed P k) (ht : P.underlying t = some (.map k e)) (hn : n < maxLen) (inj : ∀ x y, en x = en y → x = y)
    (hm : a.eval m = .map (some b)) (key : α) (kl : Lit) (hx : a.eval x = en key) (hkey : keyOf P k (en key) = some kl) (c : Cn) (hv : a.eval v = cEl c)
    (hK : ∀ w', MCnt P w' k b (n + 1) en (fun x => if x = key then some c else f x) → w.mapTurned w' b → wpList P ops Q rest (a.put o.dst undef) w') : wpList P ops Q (o :: rest) a w := by
  refine wpList_plain hg fun K' hK' => ?_
  obtain ⟨w', hrun, r1, r2⟩ := h.store K ht hn inj hkey c
  unfold Oper.wp
  simp [execOp, hop, hm, hx, hv, hrun, Result.andThen]
  exact hK' _ _ (hK w' r1 r2)
end
end Go.Proofs.Ytgfjdkkfgclhjaa.Bd
