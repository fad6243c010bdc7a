/- Var, Ite, Not, And, Or. -/
import Derived.Test.YtgfjdkkfgclhjaaBK
import Derived.Test.YtgfjdkkfgclhjaaBH
import Derived.Test.YtgfjdkkfgclhjaaBG
namespace Go.Proofs.Ytgfjdkkfgclhjaa.Bd
open Go.RowKit Go.Proofs.Ytgfjdkkfgclhjaa Go.Proofs.Ytgfjdkkfgclhjaa.Lx Go.Maps

structure Adm (s : St) : Prop where
  ms : s.ms ≤ 4194304
  hn : s.hn ≤ 4194304
  gn : s.gn ≤ 900000000
  vs : s.vs ≤ 256
/-- a call that answers a node -/
def ApiOut (k : Blk) (s : St) (w : World) (room : Nat) (ok : List Nd → Nat → Prop) (e : Ending) (w' : World) : Prop :=
  ∃ k' s1 r, Up s s1 ∧ s1.m + 2 ≤ s.m + room ∧ ok s1.nd r ∧ Turn k k' w w' ∧ WF s1.nd ∧ r < s1.nd.length ∧
    ((s.ms < s.hn + (fresh s1 r).length ∧ e = .returned (.tuple #[.int .i64 0, .int .i64 3]) ∧ Ar w' k' s1) ∨
     (s.hn + (fresh s1 r).length ≤ s.ms ∧ e = .returned (.tuple #[.int .i64 (r : Nat), .int .i64 0]) ∧ Ar w' k' (s1.give r)))
theorem api_of {k k1 : Blk} {s s1 : St} {w w1 w' : World} {room r : Nat} {ok : List Nd → Nat → Prop} {e : Ending} (U : Up s s1) (hm : s1.m + 2 ≤ s.m + room) (ho : ok s1.nd r) (T : Turn k k1 w w1) (hw : WF s1.nd) (hr : r < s1.nd.length) (h : GiveOut k1 s1 r w1 e w') : ApiOut k s w room ok e w' := by
  rcases h with ⟨h1, h2, h3, h4⟩ | ⟨h1, h2, h3, h4⟩
  · exact ⟨k1, s1, r, U, hm, ho, T.trans h4, hw, hr, .inl ⟨by rw [← U.ms, ← U.hn]; exact h1, h2, h3⟩⟩
  · exact ⟨k1, s1, r, U, hm, ho, T.trans h4, hw, hr, .inr ⟨by rw [← U.ms, ← U.hn]; exact h1, h2, h3⟩⟩
theorem Ar.wf {w : World} {k : Blk} {s : St} (h : Ar w k s) : WF s.nd := by obtain ⟨_, _, _, I⟩ := h; exact I.wf
theorem Ar.nm {w : World} {k : Blk} {s : St} (h : Ar w k s) : s.nd.length ≤ s.m + 2 := by obtain ⟨_, _, _, I⟩ := h; exact I.nm
theorem give_up {k : Blk} {s s1 : St} {r : Nat} {w : World} (hA : Ar w k s1) (hr : r < s1.nd.length) (hm : s1.m + 2 ≤ 1000000000) (U : Up s s1) (ad : Adm s) :
    Calls Try.prog 37 #[.pointer (some ⟨k.p, 0, none⟩), .int .i32 r] w (GiveOut k s1 r w) :=
  give_any k s1 r w hA hr hm (by rw [U.ms]; exact ad.ms) (by rw [U.gn]; have := ad.gn; omega) (by rw [U.hn]; exact ad.hn)

set_option maxHeartbeats 1000000 in
set_option maxRecDepth 100000 in
theorem var_any (k : Blk) (s : St) (i : Nat) (w : World) (hA : Ar w k s) (ad : Adm s) (hi : i < s.vs) (hm : s.m + 3 ≤ 1000000000) :
    Calls Try.prog 18 #[.pointer (some ⟨k.p, 0, none⟩), .int .i64 i] w (ApiOut k s w 3 (fun nd' r => OkMk s.nd nd' i 0 1 r)) := by
  have hv := ad.vs
  have hW := hA.wf
  have c0 : w.cell? ⟨k.p, 0, none⟩ = some (.int .i64 s.vs) := by obtain ⟨_, _, H, _⟩ := hA; exact H.c0
  have HM := hide (mk_any k s i 0 1 w hA (by omega) (fun _ => true) 256 256 _ _ .zero .one (by omega) (by omega) (by omega) rfl)
  have HAD := hide ad
  have d1 : decide ((i : Int) < 0) = false := by simp
  have d2 : decide ((s.vs : Int) ≤ i) = false := by simp; omega
  clear ad
  go_enter Try.func18, Try.ntmps18
  go_wp2_with fail
  refine HM.out.mono ?_
  rintro e w1 ⟨k1, s1, r, rfl, hA1, T1, U1, m1, o1⟩
  have hr : r < s1.nd.length := by
    obtain ⟨t, _, d⟩ := o1 (fun _ => true) _ _ _ _ rfl .zero .one
    exact d.lt hA1.wf
  have HG := hide (give_up hA1 hr (by omega) U1 HAD.out)
  rw [T1.p] at HG
  have HU := hide U1
  have HO := hide o1
  have HT := hide T1
  have HW1 := hide hA1.wf
  clear hA1 U1 o1 T1 hA HM
  go_wp2_with fail
  refine HG.out.mono ?_
  intro e w2 hg
  have HX := hide (api_of HU.out (room := 3) (by omega) (ok := fun nd' r => OkMk s.nd nd' i 0 1 r) HO.out HT.out HW1.out hr hg)
  rcases hg with ⟨_, rfl, _⟩ | ⟨_, rfl, _⟩
  all_goals (
    go_wp2_with fail
    go_ret2
    exact HX.out)
theorem var_nil (i : Int) (w : World) : Calls Try.prog 18 #[.pointer none, .int .i64 i] w fun e w' => e = .returned (.tuple #[.int .i64 0, .int .i64 2]) ∧ w' = w := by
  go_enter Try.func18, Try.ntmps18
  go_wp2_with fail
  go_ret2
  exact ⟨rfl, rfl⟩
theorem var_bad (k : Blk) (s : St) (i : Int) (w : World) (hA : Ar w k s) (hi : i < 0 ∨ s.vs ≤ i) :
    Calls Try.prog 18 #[.pointer (some ⟨k.p, 0, none⟩), .int .i64 i] w fun e w' => e = .returned (.tuple #[.int .i64 0, .int .i64 1]) ∧ w' = w := by
  have c0 : w.cell? ⟨k.p, 0, none⟩ = some (.int .i64 s.vs) := by obtain ⟨_, _, H, _⟩ := hA; exact H.c0
  cases d1 : decide (i < 0)
  · have d2 : decide ((s.vs : Int) ≤ i) = true := by have := of_decide_eq_false d1; simp; omega
    clear hA hi
    go_enter Try.func18, Try.ntmps18
    go_wp2_with fail
    go_ret2
    exact ⟨rfl, rfl⟩
  · clear hA hi
    go_enter Try.func18, Try.ntmps18
    go_wp2_with fail
    go_ret2
    exact ⟨rfl, rfl⟩

theorem cells3 (w : World) (a b c : Int) : ∀ (j : Nat) (x : Int), [a, b, c][j]? = some x → (w.alloc (.cells #[.int .i64 a, .int .i64 b, .int .i64 c] 3)).cell? ⟨w.heap.size, j, none⟩ = some (.int .i64 x) := by
  intro j x hx
  refine cell_heap (heap_new _ _) ?_
  match j, hx with
  | 0, hx => simpa using hx
  | 1, hx => simpa using hx
  | 2, hx => simpa using hx
  | j + 3, hx => simp at hx
set_option maxHeartbeats 1000000 in
set_option maxRecDepth 100000 in
/-- g where f is true, else h: of nodes that were given out -/
theorem Ite_any (S : Nat → Bool) (k : Blk) (s : St) (f g h tf tg th : Nat) (F G H : Env → Bool) (w : World) (hA : Ar w k s) (ad : Adm s) (g1 : s.gi f = true) (g2 : s.gi g = true) (g3 : s.gi h = true) (d1 : Den S s.nd f tf F) (d2 : Den S s.nd g tg G) (d3 : Den S s.nd h th H) (hm : s.m + 2 ^ (nS S (min tf (min tg th)) + 1) ≤ 1000000000) :
    Calls Try.prog 19 #[.pointer (some ⟨k.p, 0, none⟩), .int .i64 f, .int .i64 g, .int .i64 h] w (ApiOut k s w (2 ^ (nS S (min tf (min tg th)) + 1)) (fun nd' r => OkIte s.nd nd' f g h r)) := by
  have hW := hA.wf
  have hnm := hA.nm
  have l1 := d1.lt hW
  have l2 := d2.lt hW
  have l3 := d3.lt hW
  have hp : 2 ≤ 2 ^ (nS S (min tf (min tg th)) + 1) := by have := Nat.one_le_two_pow (n := nS S (min tf (min tg th))); rw [Nat.pow_succ]; omega
  have hbl := bel_one w (.cells #[.int .i64 f, .int .i64 g, .int .i64 h] 3)
  have HC := hide (check_any k s [(f : Int), g, h] w.heap.size _ (hA.below hbl) (cells3 w f g h) (by simp; omega) (by simp))
  have HGV := hide (gvn_all (s := s) (l := [(f : Int), g, h]) (by simp [g1, g2, g3]))
  have HI := hide (ite_any S k s f g h tf tg th F G H _ (hA.below hbl) d1 d2 d3 hm)
  have HBL := hide hbl
  have HAD := hide ad
  rw [show [(f : Int), g, h].length = 3 from rfl, HGV.out] at HC
  generalize 2 ^ (nS S (min tf (min tg th)) + 1) = room at *
  have HD := hide (And.intro d1 (And.intro d2 d3))
  clear hA g1 g2 g3 d1 d2 d3 hbl ad
  go_enter Try.func19, Try.ntmps19
  go_wp2_with fail
  refine HC.out.mono ?_
  rintro e w1 ⟨rfl, rfl⟩
  go_wp2_with fail
  refine HI.out.mono ?_
  intro e w2 hh
  unfold NodeOut at hh
  obtain ⟨k1, s1, r, rfl, hA1, T1, U1, m1, o1⟩ := hh
  have hr : r < s1.nd.length := by
    obtain ⟨t, _, d⟩ := o1 S _ _ _ _ _ _ HD.out.1 HD.out.2.1 HD.out.2.2
    exact d.lt hA1.wf
  have HG := hide (give_up hA1 hr (by omega) U1 HAD.out)
  rw [T1.p] at HG
  have HU := hide U1
  have HO := hide o1
  have HT := hide ((Turn.below (k := k) HBL.out).trans T1)
  have HW1 := hide hA1.wf
  clear hA1 U1 o1 T1 HI HC
  go_wp2_with fail
  refine HG.out.mono ?_
  intro e w3 hg
  have HX := hide (api_of HU.out m1 (ok := fun nd' r => OkIte s.nd nd' f g h r) HO.out HT.out HW1.out hr hg)
  rcases hg with ⟨_, rfl, _⟩ | ⟨_, rfl, _⟩
  all_goals (
    go_wp2_with fail
    go_ret2
    exact HX.out)
end Go.Proofs.Ytgfjdkkfgclhjaa.Bd
