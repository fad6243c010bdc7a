/- The arena's promise; mk and cut. -/
import Derived.Test.YtgfjdkkfgclhjaaBB
import Derived.Test.YtgfjdkkfgclhjaaBT
namespace Go.Proofs.Ytgfjdkkfgclhjaa.Bd
open Go.RowKit Go.Proofs.Ytgfjdkkfgclhjaa Go.Proofs.Ytgfjdkkfgclhjaa.Lx Go.Maps

def ByOK (nd : List Nd) (f : Nd → Option Int) : Prop := (∀ x c, f x = some c → ∃ i : Nat, c = i ∧ 2 ≤ i ∧ nd[i]? = some x) ∧ ∀ (i : Nat) x, 2 ≤ i → nd[i]? = some x → f x = some (i : Int)
/-- r is g where f is true, else h -/
def OkIte (nd nd' : List Nd) (f g h r : Nat) : Prop := ∀ (S : Nat → Bool) (tf tg th : Nat) (F G H : Env → Bool), Den S nd f tf F → Den S nd g tg G → Den S nd h th H → ∃ t, min tf (min tg th) ≤ t ∧ Den S nd' r t (fun ρ => if F ρ then G ρ else H ρ)
def ItOK (nd : List Nd) (f : Nd → Option Int) : Prop := ∀ a b c i, f (a, b, c) = some i → ∃ r : Nat, i = r ∧ r < nd.length ∧ a < nd.length ∧ b < nd.length ∧ c < nd.length ∧ OkIte nd nd a b c r
def OkMk (nd nd' : List Nd) (v lo hi r : Nat) : Prop := ∀ (S : Nat → Bool) (tl th : Nat) (Fl Fh : Env → Bool), S v = true → Den S nd lo tl Fl → Den S nd hi th Fh → ∃ t, v ≤ t ∧ Den S nd' r t (fun ρ => if ρ v then Fh ρ else Fl ρ)
structure Inv (s : St) (fb ft : Nd → Option Int) : Prop where
  by_ : ByOK s.nd fb
  it : ItOK s.nd ft
  wf : WF s.nd
  nm : s.nd.length ≤ s.m + 2
  gi : ∀ x, s.gi x = true → ∃ i : Nat, x = i ∧ i < s.nd.length
def Ar (w : World) (k : Blk) (s : St) : Prop := ∃ fb ft, Hp w k s fb ft ∧ Inv s fb ft
/-- more nodes; nothing else -/
structure Up (s s' : St) : Prop where
  vs : s'.vs = s.vs
  ms : s'.ms = s.ms
  gi : s'.gi = s.gi
  gn : s'.gn = s.gn
  he : s'.he = s.he
  hn : s'.hn = s.hn
  nd : ∃ ex, s'.nd = s.nd ++ ex
  m : s.m ≤ s'.m
theorem Up.refl (s : St) : Up s s := ⟨rfl, rfl, rfl, rfl, rfl, rfl, ⟨[], by simp⟩, Nat.le_refl _⟩
theorem Up.trans {a b c : St} (h : Up a b) (h2 : Up b c) : Up a c := by
  obtain ⟨e1, h1⟩ := h.nd
  obtain ⟨e2, h2'⟩ := h2.nd
  exact ⟨h2.vs.trans h.vs, h2.ms.trans h.ms, h2.gi.trans h.gi, h2.gn.trans h.gn, h2.he.trans h.he, h2.hn.trans h.hn, ⟨e1 ++ e2, by rw [h2', h1, List.append_assoc]⟩, Nat.le_trans h.m h2.m⟩
theorem Den.up {S : Nat → Bool} {s s' : St} (hu : Up s s') {i t : Nat} {F : Env → Bool} (h : Den S s.nd i t F) : Den S s'.nd i t F := by
  obtain ⟨ex, e⟩ := hu.nd
  rw [e]; exact h.append
theorem Den.shrink {S : Nat → Bool} {nd ex : List Nd} {i t : Nat} {F : Env → Bool} (h : Den S (nd ++ ex) i t F) : i < nd.length → Den S nd i t F := by
  induction h with
  | zero => intro _; exact .zero
  | one => intro _; exact .one
  | node h h2 hl hh hne h1 h3 hv hS _ _ il ih =>
    intro hi
    exact .node (by rw [List.getElem?_append_left hi] at h; exact h) h2 hl hh hne h1 h3 hv hS (il (by omega)) (ih (by omega))
theorem OkIte.grow {nd ex : List Nd} {f g h r : Nat} (hf : f < nd.length) (hg : g < nd.length) (hh : h < nd.length) (ho : OkIte nd nd f g h r) : OkIte (nd ++ ex) (nd ++ ex) f g h r := by
  intro S tf tg th F G H d1 d2 d3
  obtain ⟨t, ht, d⟩ := ho S tf tg th F G H (d1.shrink hf) (d2.shrink hg) (d3.shrink hh)
  exact ⟨t, ht, d.append⟩
theorem ItOK.grow {nd ex : List Nd} {f : Nd → Option Int} (h : ItOK nd f) : ItOK (nd ++ ex) f := by
  intro a b c i hi
  obtain ⟨r, e, h0, h1, h2, h3, h4⟩ := h a b c i hi
  have : (nd ++ ex).length = nd.length + ex.length := List.length_append
  exact ⟨r, e, by omega, by omega, by omega, by omega, h4.grow h1 h2 h3⟩
theorem ByOK.push {nd : List Nd} {f : Nd → Option Int} (h : ByOK nd f) (x : Nd) (h2 : 2 ≤ nd.length) (hx : f x = none) : ByOK (nd ++ [x]) (fun y => if y = x then some (nd.length : Int) else f y) := by
  refine ⟨fun y c hc => ?_, fun i y hi hy => ?_⟩
  · simp only at hc
    split at hc
    · rename_i e
      subst e
      cases hc
      exact ⟨nd.length, rfl, h2, by simp⟩
    · obtain ⟨i, e1, e2, e3⟩ := h.1 y c hc
      exact ⟨i, e1, e2, by rw [List.getElem?_append_left (lt_of_some e3)]; exact e3⟩
  · have hlt := lt_of_some hy
    simp only [List.length_append, List.length_singleton] at hlt
    rcases Nat.lt_or_ge i nd.length with a | a
    · rw [List.getElem?_append_left a] at hy
      have := h.2 i y hi hy
      simp only
      rw [if_neg (fun e => by rw [e, hx] at this; cases this)]
      exact this
    · obtain rfl : i = nd.length := by omega
      have : x = y := by simpa using hy
      subst this
      simp
theorem Den.det2 {S S' : Nat → Bool} {nd : List Nd} {i t t' : Nat} {F F' : Env → Bool} (h : Den S nd i t F) (h' : Den S' nd i t' F') : t = t' ∧ F = F' := h.all.det h'.all
/-- what mk answers, in plain words -/
theorem mk_same {nd : List Nd} {v lo : Nat} {S0 : Nat → Bool} {tl0 : Nat} {F0 : Env → Bool} (d0 : Den S0 nd lo tl0 F0) (h : v ≤ tl0) : OkMk nd nd v lo lo lo := by
  intro S tl th Fl Fh hS d1 d2
  obtain ⟨rfl, rfl⟩ := d1.det2 d2
  obtain ⟨rfl, rfl⟩ := d0.det2 d1
  refine ⟨tl0, h, ?_⟩
  have e : (fun ρ : Env => if ρ v then F0 ρ else F0 ρ) = F0 := by funext ρ; simp
  rw [e]; exact d1
theorem mk_there {nd : List Nd} (hw : WF nd) {v lo hi i tl0 th0 : Nat} {S0 : Nat → Bool} {Fl0 Fh0 : Env → Bool} (dl : Den S0 nd lo tl0 Fl0) (dh : Den S0 nd hi th0 Fh0) (h1 : v < tl0) (h2 : v < th0) (hv : v < 256) (h : nd[i]? = some (v, lo, hi)) : OkMk nd nd v lo hi i := by
  intro S tl th Fl Fh hS d1 d2
  obtain ⟨rfl, rfl⟩ := dl.det2 d1
  obtain ⟨rfl, rfl⟩ := dh.det2 d2
  exact ⟨v, Nat.le_refl _, (mk_old hw d1 d2 h1 h2 hv hS h).2⟩
theorem mk_new {nd : List Nd} (hw : WF nd) {v lo hi tl0 th0 : Nat} {S0 : Nat → Bool} {Fl0 Fh0 : Env → Bool} (dl : Den S0 nd lo tl0 Fl0) (dh : Den S0 nd hi th0 Fh0) (h1 : v < tl0) (h2 : v < th0) (hv : v < 256) (hne : lo ≠ hi) (hnew : ∀ i : Nat, nd[i]? ≠ some (v, lo, hi)) : OkMk nd (nd ++ [(v, lo, hi)]) v lo hi nd.length := by
  intro S tl th Fl Fh hS d1 d2
  obtain ⟨rfl, rfl⟩ := dl.det2 d1
  obtain ⟨rfl, rfl⟩ := dh.det2 d2
  exact ⟨v, Nat.le_refl _, (hw.push d1 d2 h1 h2 hv hS hne hnew).2⟩
theorem Inv.fresh {s : St} {fb ft : Nd → Option Int} (I : Inv s fb ft) {v lo hi : Nat} (hv : v < 256) (hf : fb (v, lo, hi) = none) : ∀ i : Nat, s.nd[i]? ≠ some (v, lo, hi) := by
  intro i h
  rcases (by omega : i = 0 ∨ i = 1 ∨ 2 ≤ i) with rfl | rfl | h2
  · rw [I.wf.e0] at h; cases h; omega
  · rw [I.wf.e1] at h; cases h; omega
  · have := I.by_.2 i _ h2 h
    rw [hf] at this
    cases this
theorem Inv.push {s : St} {fb ft : Nd → Option Int} (I : Inv s fb ft) {S : Nat → Bool} {v lo hi tl th : Nat} {Fl Fh : Env → Bool} (dl : Den S s.nd lo tl Fl) (dh : Den S s.nd hi th Fh) (h1 : v < tl) (h2 : v < th) (hv : v < 256) (hS : S v = true) (hne : lo ≠ hi) (hf : fb (v, lo, hi) = none) :
    Inv { s with nd := s.nd ++ [(v, lo, hi)], m := s.m + 1 } (fun x => if x = (v, lo, hi) then some (s.nd.length : Int) else fb x) ft ∧ OkMk s.nd (s.nd ++ [(v, lo, hi)]) v lo hi s.nd.length := by
  have hn := I.fresh hv hf
  refine ⟨⟨I.by_.push _ I.wf.two hf, I.it.grow, (I.wf.push dl dh h1 h2 hv hS hne hn).1, ?_, fun x hx => ?_⟩, mk_new I.wf dl dh h1 h2 hv hne hn⟩
  · have := I.nm
    simp only [List.length_append, List.length_singleton]
    omega
  · obtain ⟨i, e, hi⟩ := I.gi x hx
    exact ⟨i, e, by simp only [List.length_append, List.length_singleton]; omega⟩
theorem infoN : (Try.prog.info? 58).map (fun i => (i.zero, i.size, i.bytes)) = some (some (.agg #[.int .i32 0, .int .i32 0, .int .i32 0]), 3, 12) := by kernel_rfl
theorem info_at {P : Program} {t : TypeId} {z : Option Value} {n m : Nat} (h : (P.info? t).map (fun i => (i.zero, i.size, i.bytes)) = some (z, n, m)) : ∃ i, P.info? t = some i ∧ i.zero = z ∧ i.size = n ∧ i.bytes = m := by
  cases hi : P.info? t with
  | none => rw [hi] at h; cases h
  | some i =>
    rw [hi] at h
    simp only [Option.map_some, Option.some.injEq, Prod.mk.injEq] at h
    exact ⟨i, rfl, h⟩

set_option maxHeartbeats 4000000 in
set_option maxRecDepth 100000 in
theorem mk_any (k : Blk) (s : St) (v lo hi : Nat) (w : World) (hA : Ar w k s) (hm : s.m + 1 ≤ 1000000000) (S : Nat → Bool) (tl th : Nat) (Fl Fh : Env → Bool) (dl : Den S s.nd lo tl Fl) (dh : Den S s.nd hi th Fh) (h1 : v < tl) (h2 : v < th) (hv : v < 256) (hS : S v = true) :
    Calls Try.prog 41 #[.pointer (some ⟨k.p, 0, none⟩), .int .i32 v, .int .i32 lo, .int .i32 hi] w fun e w' => ∃ k' s' r, e = .returned (.int .i32 (r : Nat)) ∧ Ar w' k' s' ∧ Turn k k' w w' ∧ Up s s' ∧ s'.m ≤ s.m + 1 ∧ OkMk s.nd s'.nd v lo hi r := by
  obtain ⟨fb, ft, H, I⟩ := hA
  have hlo := dl.lt I.wf
  have hhi := dh.lt I.wf
  have hnm := I.nm
  by_cases heq : (lo : Int) = hi
  · have hd : ((lo : Int) == hi) = true := by simpa using heq
    have hl : lo = hi := by omega
    subst hl
    have HA : Hid (Ar w k s) := ⟨fb, ft, H, I⟩
    have HD := hide (mk_same dl (Nat.le_of_lt h1))
    clear H I dl dh
    go_enter Try.func41, Try.ntmps41
    go_wp2_with fail
    go_ret
    exact ⟨k, s, lo, rfl, HA.out, Turn.refl _ _, Up.refl _, Nat.le_succ _, HD.out⟩
  · have hd : ((lo : Int) == hi) = false := by simpa using heq
    have hne : lo ≠ hi := by omega
    obtain ⟨kl, hkl⟩ := keyN (v, lo, hi) ⟨by simp; omega, by simp; omega, by simp; omega⟩
    have hbl := bel_one w (.cells #[.int .i32 v, .int .i32 lo, .int .i32 hi] 58)
    have H1 := H.below hbl
    have ht1 := Turn.below (k := k) hbl
    have hnf : ¬ fp k w.heap.size := fun hf => by have := H.lt _ hf; omega
    have n0 : (w.alloc (.cells #[.int .i32 v, .int .i32 lo, .int .i32 hi] 58)).heap[w.heap.size]? = some (.cells #[.int .i32 v, .int .i32 lo, .int .i32 hi] 58 (0, 0)) := heap_new _ _
    go_enter Try.func41, Try.ntmps41
    go_wp2_with fail
    generalize hW : w.alloc (.cells #[.int .i32 v, .int .i32 lo, .int .i32 hi] 58) = W at *
    have c0 : ∀ x, (lat W x).cell? ⟨w.heap.size, 0, none⟩ = some (.int .i32 v) := lat_cell (cell_heap n0 rfl)
    have c1 : ∀ x, (lat W x).cell? ⟨w.heap.size, 1, none⟩ = some (.int .i32 lo) := lat_cell (cell_heap n0 rfl)
    have c2 : ∀ x, (lat W x).cell? ⟨w.heap.size, 2, none⟩ = some (.int .i32 hi) := lat_cell (cell_heap n0 rfl)
    have c3 := lat_cell H1.c3
    have lk : ∀ x, (Instr.lookup 60 (.map (some k.bm)) (.agg #[.int .i32 v, .int .i32 lo, .int .i32 hi]) true).run Try.prog (lat W x) = .ok (.tuple #[.int .i32 ((fb (v, lo, hi)).getD 0), .bool (fb (v, lo, hi)).isSome]) (lat W x) :=
      fun x => ((H1.below (lat_below W x)).bm).look keyedN Try.underlying60 Try.underlying21 (zero3 _) hkl
    cases hf : fb (v, lo, hi) with
    | some c =>
      obtain ⟨i, rfl, hi2, hget⟩ := I.by_.1 _ _ hf
      rw [hf] at lk
      simp only [Option.getD_some, Option.isSome_some] at lk
      have HA : Hid (∀ x, Ar (lat W x) k s) := fun x => ⟨fb, ft, H1.below (lat_below W x), I⟩
      have HT : Hid (∀ x, Turn k k w (lat W x)) := fun x => ht1.trans (Turn.below (lat_below W x))
      have HD := hide (mk_there I.wf dl dh h1 h2 hv hget)
      clear H I dl dh H1 ht1 hbl
      refine wp_region_lat (by kernel_rfl) (by kernel_rfl) ?_
      repeat (first | go_big_quiet_step ((fail)) | quiet_step ((fail)))
      refine wpQuiet_nil ?_
      intro _ hlat
      obtain ⟨wq, rfl⟩ := hlat
      go_wp2_with fail
      go_ret
      exact ⟨k, s, i, rfl, HA.out _, HT.out _, Up.refl _, Nat.le_succ _, HD.out⟩
    | none =>
      rw [hf] at lk
      simp only [Option.getD_none, Option.isSome_none] at lk
      refine wp_region_lat (by kernel_rfl) (by kernel_rfl) ?_
      repeat (first | go_big_quiet_step ((fail)) | quiet_step ((fail)))
      refine wpQuiet_nil ?_
      intro _ hlat
      obtain ⟨wq, rfl⟩ := hlat
      have H2 := hide (H1.below (lat_below W wq))
      have HT2 := hide (ht1.trans (Turn.below (k := k) (lat_below W wq)))
      have HN2 := hide (heapB (lat_below W wq) n0)
      have HS2 := hide (Nat.le_trans hbl.size (lat_below W wq).size)
      clear c0 c1 c2 c3 lk H1 ht1 hbl n0
      generalize lat W wq = w2 at *
      have c2 := H2.out.c2
      go_wp2_with fail
      obtain ⟨i1, hi1, iz1, is1, ib1⟩ := info_at infoN
      have n1 := HN2.out
      have d0 : ∀ o, ((w2.drew).alloc o).cell? ⟨w.heap.size, 0, none⟩ = some (.int .i32 v) := fun o => cell_heap (heap_old n1) rfl
      have d1 : ∀ o, ((w2.drew).alloc o).cell? ⟨w.heap.size, 1, none⟩ = some (.int .i32 lo) := fun o => cell_heap (heap_old n1) rfl
      have d2 : ∀ o, ((w2.drew).alloc o).cell? ⟨w.heap.size, 2, none⟩ = some (.int .i32 hi) := fun o => cell_heap (heap_old n1) rfl
      have d3 : ∀ o, (w2.alloc o).cell? ⟨k.p, 2, none⟩ = some (.slice (some ⟨k.g, 0, none⟩) s.nd.length k.c) := fun o => (H2.out.below ((Below.refl _ w2).alloc (Nat.le_refl _) o)).c2
      have e0 : w2.cell? ⟨w.heap.size, 0, none⟩ = some (.int .i32 v) := cell_heap n1 rfl
      have e1 : w2.cell? ⟨w.heap.size, 1, none⟩ = some (.int .i32 lo) := cell_heap n1 rfl
      have e2 : w2.cell? ⟨w.heap.size, 2, none⟩ = some (.int .i32 hi) := cell_heap n1 rfl
      have hB3 := hide ((Below.refl w2.heap.size w2).drew.alloc (Nat.le_refl _) (Obj.cells #[.int .i32 v, .int .i32 lo, .int .i32 hi] 58))
      have H3 := hide (H2.out.below hB3.out)
      have HT3 := hide (HT2.out.trans (Turn.below (k := k) hB3.out))
      have n3 := hide (heapB hB3.out n1)
      have s3 := hide (Nat.le_trans HS2.out hB3.out.size)
      have q1 : s.m < maxLen := by unfold maxLen; omega
      have q2 : (Lit.int .i32 s.nd.length).wf = true := wf3 (by omega) (by omega)
      refine wp_region_paths 7 [0, 1, 2, 3] [[4, 5, 6, 7, 8, 9, 10], [5, 4, 6, 7, 8, 9, 10], [5, 6, 4, 7, 8, 9, 10]] (by kernel_rfl) (by kernel_rfl) (by kernel_rfl) (by kernel_rfl) (.cons (.zero) (.cons (.succ (.zero)) (.cons (.succ (.succ (.zero))) (.cons (.succ (.succ (.succ (.zero)))) .nil)))) (.cons (.cons (.succ (.succ (.succ (.succ (.zero))))) (.cons (.succ (.succ (.succ (.succ (.succ (.zero)))))) (.cons (.succ (.succ (.succ (.succ (.succ (.succ (.zero))))))) (.cons (.succ (.succ (.succ (.succ (.succ (.succ (.succ (.zero)))))))) (.cons (.succ (.succ (.succ (.succ (.succ (.succ (.succ (.succ (.zero))))))))) (.cons (.succ (.succ (.succ (.succ (.succ (.succ (.succ (.succ (.succ (.zero)))))))))) (.cons (.succ (.succ (.succ (.succ (.succ (.succ (.succ (.succ (.succ (.succ (.zero))))))))))) .nil))))))) (.cons (.cons (.succ (.succ (.succ (.succ (.succ (.zero)))))) (.cons (.succ (.succ (.succ (.succ (.zero))))) (.cons (.succ (.succ (.succ (.succ (.succ (.succ (.zero))))))) (.cons (.succ (.succ (.succ (.succ (.succ (.succ (.succ (.zero)))))))) (.cons (.succ (.succ (.succ (.succ (.succ (.succ (.succ (.succ (.zero))))))))) (.cons (.succ (.succ (.succ (.succ (.succ (.succ (.succ (.succ (.succ (.zero)))))))))) (.cons (.succ (.succ (.succ (.succ (.succ (.succ (.succ (.succ (.succ (.succ (.zero))))))))))) .nil))))))) (.cons (.cons (.succ (.succ (.succ (.succ (.succ (.zero)))))) (.cons (.succ (.succ (.succ (.succ (.succ (.succ (.zero))))))) (.cons (.succ (.succ (.succ (.succ (.zero))))) (.cons (.succ (.succ (.succ (.succ (.succ (.succ (.succ (.zero)))))))) (.cons (.succ (.succ (.succ (.succ (.succ (.succ (.succ (.succ (.zero))))))))) (.cons (.succ (.succ (.succ (.succ (.succ (.succ (.succ (.succ (.succ (.zero)))))))))) (.cons (.succ (.succ (.succ (.succ (.succ (.succ (.succ (.succ (.succ (.succ (.zero))))))))))) .nil))))))) .nil))) (fun _ _ _ _ _ h => h) ?_
      repeat (first | go_big_quiet_step ((fail)) | quiet_step ((fail)))
      refine wpQuiet_nil ?_
      refine ⟨?_, ?_, Each.one ?_⟩
      all_goals (
        go_wp2_with (at_builtin; refine wpList_append_own_at _ rfl (.tmp 41) (.tmp 43) 59 rfl 0 58 i1 _ 3 12 Try.underlying59 hi1 iz1 is1 ib1 rfl (by decide) _ s.nd.length (cellsN s.nd) rfl H3.out.v ⟨w2.heap.size, 0, none⟩ 1 1 [.int .i32 v, .int .i32 lo, .int .i32 hi] rfl rfl ?cells ?ones ?c63 ?cby ?cbase ?_)
        case cells =>
          intro j u hj
          match j, hj with
          | 0, hj => simp at hj; subst hj; simp [Addr.add, go_sem]
          | 1, hj => simp at hj; subst hj; simp [Addr.add, go_sem]
          | 2, hj => simp at hj; subst hj; simp [Addr.add, go_sem]
          | j + 3, hj => simp at hj
        case ones => simp [Value.oneCell']
        case c63 => unfold maxLen; omega
        case cby => omega
        case cbase => exact Nat.zero_le _
        intro v' w4 hown' hgrow _ hat
        obtain ⟨g', c', rfl⟩ : ∃ g' c', v' = .slice (some ⟨g', 0, none⟩) (s.nd.length + 1) c' := by
          rcases hown'.2 with ⟨_, h0⟩ | ⟨g, cap, cur, h0, _⟩
          · omega
          · exact ⟨g, cap, h0⟩
        have hg' : g' = k.g ∨ _ ≤ g' := hat.imp (fun e => by simpa [Value.ownBlock] using e) (fun e => Nat.le_of_eq (by simpa [Value.ownBlock] using e.symm))
        obtain ⟨H5, T5⟩ := H3.out.append (x := (v, lo, hi)) hown' hgrow (hg'.imp id (fun h => by simpa using h))
        have hfr : w4.frozen? ⟨k.p, 2, none⟩ = false := frozen_heap (heap_grown H3.out.p hgrow (fun e => H3.out.pg (by injection e with e; exact e.symm)))
        have hcl : w4.cell? ⟨k.p, 2, none⟩ = some (.slice (some ⟨k.g, 0, none⟩) s.nd.length k.c) := cell_heap (heap_grown H3.out.p hgrow (fun e => H3.out.pg (by injection e with e; exact e.symm))) rfl
        have n5 := hide (T5.heap n3.out hnf)
        have HT5 := hide (HT3.out.trans T5)
        have s5 := hide (Nat.le_trans s3.out T5.size)
        have HH5 := hide H5
        clear hown' hgrow hat hg' H5 T5 d0 d1 d2 d3 e0 e1 e2
        go_wp2_with fail
        generalize w4.setCell ⟨k.p, 2, none⟩ (.slice (some ⟨g', 0, none⟩) (s.nd.length + 1) c') = w5 at *
        have d0 : w5.drew.cell? ⟨w.heap.size, 0, none⟩ = some (.int .i32 v) := cell_heap n5.out rfl
        have d1 : w5.drew.cell? ⟨w.heap.size, 1, none⟩ = some (.int .i32 lo) := cell_heap n5.out rfl
        have d2 : w5.drew.cell? ⟨w.heap.size, 2, none⟩ = some (.int .i32 hi) := cell_heap n5.out rfl
        have d3 : w5.drew.cell? ⟨k.p, 3, none⟩ = some (.map (some k.bm)) := HH5.out.drew.c3
        go_still_tail 6, (by kernel_rfl)
        change wpList _ _ _ _ _ w5.drew
        have HH6 := hide HH5.out.drew
        have HT6 := hide (HT5.out.trans (Turn.below ((Below.refl _ w5).drew)))
        generalize w5.drew = w6 at *
        go_wp2_with (at_mapUpdate; go_must (refine wpList_put rfl (.tmp 50) (.tmp 51) (.tmp 52) rfl HH6.out.bm keyedN Try.underlying60 Try.underlying21 q1 encN_inj rfl (v, lo, hi) kl rfl hkl s.nd.length rfl q2 ?_))
        intro w7 hmi hmt
        obtain ⟨H7, T7⟩ := HH6.out.bmPut hmi hmt
        have HR : Hid (Ar w7 _ _) := ⟨_, _, H7, (I.push dl dh h1 h2 hv hS hne hf).1⟩
        have HT7 := hide (HT6.out.trans T7)
        have HD := hide (I.push dl dh h1 h2 hv hS hne hf).2
        clear hmi hmt H7 T7 I dl dh
        go_wp2_with fail
        go_ret
        exact ⟨_, _, s.nd.length, rfl, HR.out, HT7.out, ⟨rfl, rfl, rfl, rfl, rfl, rfl, ⟨_, rfl⟩, Nat.le_succ _⟩, Nat.le_refl _, HD.out⟩)
end Go.Proofs.Ytgfjdkkfgclhjaa.Bd
