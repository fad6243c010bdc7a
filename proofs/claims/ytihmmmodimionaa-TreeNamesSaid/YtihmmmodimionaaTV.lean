/- list, joined with statement; Parse. -/
import Derived.Test.YtihmmmodimionaaTE
import Derived.Test.YtihmmmodimionaaTU
namespace Go.Proofs.Ytihmmmodimionaa.Tr
open Go.RowKit Go.Proofs.Ytihmmmodimionaa Go.Proofs.Ytihmmmodimionaa.Lx

theorem list_any (p : Nat) : ∀ (f deep : Nat) (op : Pl) (A : Option Addr) (cap : Nat) (ts : List BTok) (w : World), RdX w p A cap ts 0 0 0 → deep ≤ 32 → ts.length < f → ts.length ≤ 100000 →
    Calls Try.prog 35 #[.pointer (some ⟨p, 0, none⟩), .int .i64 deep, .agg #[.int .i64 op.1, .int .i64 op.2]] w (ListOut 200000 p w (listF f deep op ts)) := by
  intro f
  induction f using Nat.strongRecOn with
  | _ f ih =>
    intro deep op A cap ts w h hd hf hl
    exact list_walk p f (hide fun g hg => fun deep A cap t ts w hd hk hl hgl h => stmt_walk p g (hide (fun deep op A cap ts w h hd hg' hl => ih g hg deep op A cap ts w h hd hg' hl)) deep A cap t ts w hd hk hl hgl h) deep op A cap ts w h hd hf hl
/-- what Parse hands back -/
def ParseOut (r : PR) (w : World) (e' : Ending) (w' : World) : Prop :=
  Below w.heap.size w w' ∧ match r with
  | .ok F _ => ∃ v xs B, e' = .returned (.tuple #[v, .agg #[.int .i64 0, .int .i64 0], .int .i64 0]) ∧ Lo w w' v F xs B
  | .err e l c => e ≠ 0 ∧ e' = .returned (.tuple #[.slice none 0 0, .agg #[.int .i64 l, .int .i64 c], .int .i64 e])
/-- a reader's block -/
structure RS (p : Nat) (A : Option Addr) (n cap : Nat) (e l c : Int) (x : World) : Prop where
  h : x.heap[p]? = some (.cells #[.slice A n cap, .int .i64 e, .int .i64 l, .int .i64 c] 79 (0, 0))
abbrev PosC (l c : Int) : Obj := .cells #[.int .i64 l, .int .i64 c] 24
theorem own_caps {w : World} {base size n c : Nat} {A : Option Addr} {e : TypeId} {xs : List Value} (h : w.ownsRow base e size (.slice A n c) n xs) : n ≤ c ∧ c ≤ maxLen ∧ ∀ a, A = some a → a.block < w.heap.size := by
  have hl := h.lt
  rcases h.2 with ⟨h1, h2⟩ | ⟨g, cap, cur, h1, _, _, h4, h5, _⟩
  · cases h1
    exact ⟨Nat.le_refl _, Nat.zero_le _, fun a e => by cases e⟩
  · cases h1
    exact ⟨h4, h5, fun a e => by cases e; exact (hl g rfl).2⟩
theorem below_only {B p : Nat} {w x y : World} (h : Below B w x) (ho : Only p x y) (hp : B ≤ p) (hs : B ≤ x.heap.size) : Below B w y :=
  ⟨ho.os.trans h.os, ho.tape.trans h.tape, ho.output.trans h.output, Nat.le_trans h.size ho.size, fun i hi => (ho.block i (Nat.lt_of_lt_of_le hi hs) (fun e => by injection e with e; omega)).trans (h.block i hi)⟩
set_option maxHeartbeats 2000000 in
set_option maxRecDepth 100000 in
theorem parse_any (s : ByteArray) (w : World) (hlen : s.size ≤ maxLen) (m : Int) (hm : w.cell? ⟨0, 0, none⟩ = some (.int .i64 m)) :
    Calls Try.prog 12 #[.string s] w (ParseOut (parseF (T s)) w) := by
  have HT := hide (fun o => tokens_any s (w.alloc o) hlen m (cellB (bel_one w o) hm))
  have HK := hide (bsOf_kz (T s))
  have HF : Hid (parseF (T s) = if (tokRes (T s)).2.2.2 = 0 then listF ((bsOf (tokRes (T s)).1).length + 1) 0 (0, 0) (bsOf (tokRes (T s)).1) else .err (tokRes (T s)).2.2.2 (tokRes (T s)).2.1 (tokRes (T s)).2.2.1) := hide (by rw [bsOf_len]; rfl)
  generalize hq : (tokRes (T s)).2 = q at HT HF
  obtain ⟨l, c, r⟩ := q
  clear hq
  go_enter Try.func12, Try.ntmps12
  go_wp2_with fail
  refine (HT.out _).mono ?_
  rintro e w1 ⟨v, bs, hbs, rfl, hown, hb, hlb⟩
  have hbs' := bsOf_tok hbs
  rw [← hbs'] at HF HK
  clear hbs hbs' HT
  have hp1 : PosR w1 w.heap.size 0 0 := heapB hb (heap_new w _)
  have hbw : Below w.heap.size w w1 := below_wide (bel_one _ _) hb
  obtain ⟨Av, cv, rfl⟩ := own_slice hown
  have hcaps := own_caps hown
  have HP1 := hide hp1
  have HB := hide hbw
  have hsz : w.heap.size < w1.heap.size := lt_heap hp1
  by_cases hr : r = 0
  · have hne : (r != 0) = false := by rw [hr]; decide
    have HF2 := hide (show parseF (T s) = listF (bs.length + 1) 0 (0, 0) bs from by rw [HF.out, if_pos hr])
    have hrd : RdX ((w1.alloc (PosC l c)).alloc (.cells #[.slice Av bs.length cv, .int .i64 0, .int .i64 0, .int .i64 0] 79)) (w1.heap.size + 1) Av cv bs 0 0 0 := by
      have hn := heap_new (w1.alloc (PosC l c)) (.cells #[.slice Av bs.length cv, .int .i64 0, .int .i64 0, .int .i64 0] 79)
      have hs : (w1.alloc (PosC l c)).heap.size = w1.heap.size + 1 := by simp
      rw [hs] at hn
      exact ⟨hn, ((own_src hown).below (bel_one w1 _)).below (bel_one _ _), fun a ha => by have := hcaps.2.2 a ha; omega, hcaps.1, hcaps.2.1, HK.out⟩
    have HL := hide (list_any (w1.heap.size + 1) (bs.length + 1) 0 (0, 0) Av cv bs _ hrd (by omega) (by omega) (by omega))
    have HS3 := hide (show ((w1.alloc (PosC l c)).alloc (.cells #[.slice Av bs.length cv, .int .i64 0, .int .i64 0, .int .i64 0] 79)).heap.size = w1.heap.size + 2 from by simp)
    have HB3 := hide (show Below w.heap.size w ((w1.alloc (PosC l c)).alloc (.cells #[.slice Av bs.length cv, .int .i64 0, .int .i64 0, .int .i64 0] 79)) from (hbw.alloc (by omega) _).alloc (by simp; omega) _)
    have HP3 := hide (show PosR ((w1.alloc (PosC l c)).alloc (.cells #[.slice Av bs.length cv, .int .i64 0, .int .i64 0, .int .i64 0] 79)) w.heap.size 0 0 from heap_old (heap_old hp1))
    clear hr hrd hcaps hown hb hp1 hbw HF
    go_wp2_with fail
    refine HL.out.mono ?_
    intro e w4 hh
    generalize (w1.alloc (PosC l c)).alloc (.cells #[.slice Av bs.length cv, .int .i64 0, .int .i64 0, .int .i64 0] 79) = w3 at *
    obtain ⟨ho, hh⟩ := hh
    have hp4 : PosR w4 w.heap.size 0 0 := only_heap ho HP3.out (by omega)
    have p0 := cell_heap (j := 0) hp4 rfl
    have p1 := cell_heap (j := 1) hp4 rfl
    have f0 := frozen_heap (j := 0) hp4
    have f1 := frozen_heap (j := 1) hp4
    have HO := hide ho
    have HP4 := hide hp4
    have HB4 := hide (below_only HB3.out ho (by omega) (by have := HS3.out; omega))
    clear ho hp4 HL
    cases hls : listF (bs.length + 1) 0 (0, 0) bs with
    | ok F rest =>
      rw [hls] at hh
      obtain ⟨v', A4, cap4, xs, B, rfl, hlo, hr4⟩ := hh
      obtain ⟨Ak, ck, rfl⟩ := own_slice hlo.own
      have e1 := cell_heap (j := 1) hr4.h rfl
      have HLO := hide hlo
      have HLS := hide hls
      clear hlo hr4 hls
      go_wp2_with fail
      refine bodyPost_ret (v := .tuple #[.slice Ak F.len ck, .agg #[.int .i64 0, .int .i64 0], .int .i64 0]) (by simp [results, Try.results12, go_sem, p0, p1]) rfl ?_
      rw [HF2.out, HLS.out]
      have hst := only_set (only_set (only_refl w.heap.size w4) 0 (.int .i64 0)) 1 (.int .i64 0)
      exact ⟨((HB4.out.setCell (p := ⟨w.heap.size, 0, none⟩) (Nat.le_refl _) _).setCell (p := ⟨w.heap.size, 1, none⟩) (Nat.le_refl _) _), _, _, _, rfl, (HLO.out.grow hst (fun b e => by injection e with e; have := HS3.out; omega)).base (by have := HS3.out; omega)⟩
    | err e2 l2 c2 =>
      rw [hls] at hh
      obtain ⟨hne2, v', A4, cap4, n4, ys, ts4, rfl, hown4, _, _, hr4⟩ := hh
      obtain ⟨Ak, ck, rfl⟩ := own_slice hown4
      have hb2 : (e2 != 0) = true := bne_iff_ne.2 hne2
      have e1 := cell_heap (j := 1) hr4.h rfl
      have HLS := hide hls
      have HNE := hide hne2
      have hws : RS (w1.heap.size + 1) A4 ts4.length cap4 e2 l2 c2 w4.drew := ⟨hr4.h⟩
      have HWS := hide hws
      have k1 := fun x => cell_heap (j := 1) (pin_in hws x).h rfl
      have k2 := fun x => cell_heap (j := 2) (pin_in hws x).h rfl
      have k3 := fun x => cell_heap (j := 3) (pin_in hws x).h rfl
      clear hls hr4 hown4 hne2 hws
      go_wp2_with fail
      refine wp_region_tree (RS (w1.heap.size + 1) A4 ts4.length cap4 e2 l2 c2) (fun k => ([] : List Nat).contains k) (.take [0, 1, 2, 3, 4, 5, 6, 7, 8] (.step 9 (.take [10] .done))) (by kernel_rfl) (by kernel_rfl) (by kernel_rfl) (by kernel_rfl) (.take (.cons (.zero) (.cons (.succ (.zero)) (.cons (.succ (.succ (.zero))) (.cons (.succ (.succ (.succ (.zero)))) (.cons (.succ (.succ (.succ (.succ (.zero))))) (.cons (.succ (.succ (.succ (.succ (.succ (.zero)))))) (.cons (.succ (.succ (.succ (.succ (.succ (.succ (.zero))))))) (.cons (.succ (.succ (.succ (.succ (.succ (.succ (.succ (.zero)))))))) (.cons (.succ (.succ (.succ (.succ (.succ (.succ (.succ (.succ (.zero))))))))) .nil))))))))) (.step (.succ (.succ (.succ (.succ (.succ (.succ (.succ (.succ (.succ (.zero)))))))))) rfl (.take (.cons (.succ (.succ (.succ (.succ (.succ (.succ (.succ (.succ (.succ (.succ (.zero))))))))))) .nil) .done))) ?hQ ?hS ?_
      case hQ => exact fun _ _ _ _ _ h => h
      case hS => exact HWS.out
      refine wpT_take ?_
      repeat (first | go_big_quiet_step ((fail)) | quiet_step ((fail)))
      refine wpQuiet_nil ?_
      have hp5 : PosR w4.drew w.heap.size 0 0 := HP4.out
      have g0 := cell_heap (j := 0) hp5 rfl
      have g1 := cell_heap (j := 1) hp5 rfl
      have gf0 := frozen_heap (j := 0) hp5
      have gf1 := frozen_heap (j := 1) hp5
      have HB5 := hide (HB4.out.drew)
      generalize w4.drew = w5 at *
      refine wpT_step rfl ?_
      intro K1 hK1
      go_wp2_with fail
      refine hK1.out _ _ (fun _ => pin_mem ⟨only_heap (only_set (only_set (only_refl w.heap.size w5) 0 _) 1 _) HWS.out.h (by omega)⟩) ?_
      clear hK1
      refine wpT_take ?_
      repeat (first | go_big_quiet_step ((fail)) | quiet_step ((fail)))
      refine wpQuiet_nil ?_
      refine wpT_done ?_
      go_wp2_with fail
      refine bodyPost_ret (v := .tuple #[.slice none 0 0, .agg #[.int .i64 l2, .int .i64 c2], .int .i64 e2]) (by simp [results, Try.results12, go_sem, g0, g1]) rfl ?_
      rw [HF2.out, HLS.out]
      exact ⟨((HB5.out.setCell (p := ⟨w.heap.size, 0, none⟩) (Nat.le_refl _) _).setCell (p := ⟨w.heap.size, 1, none⟩) (Nat.le_refl _) _), HNE.out, rfl⟩
  · have hne : (r != 0) = true := bne_iff_ne.2 hr
    have HF2 := hide (show parseF (T s) = .err r l c from by rw [HF.out, if_neg hr])
    have HR := hide hr
    have q0 := fun o => cell_heap (j := 0) (heap_old (p := o) hp1) rfl
    have q1 := fun o => cell_heap (j := 1) (heap_old (p := o) hp1) rfl
    have f0 := fun o => frozen_heap (j := 0) (heap_old (p := o) hp1)
    have f1 := fun o => frozen_heap (j := 1) (heap_old (p := o) hp1)
    clear hsz hr hcaps hown hb hp1 hbw HF
    go_wp2_with fail
    go_region
    go_wp2_with fail
    refine bodyPost_ret (v := .tuple #[.slice none 0 0, .agg #[.int .i64 l, .int .i64 c], .int .i64 r]) (by simp [results, Try.results12, go_sem, q0, q1]) rfl ?_
    rw [HF2.out]
    exact ⟨(((HB.out.alloc HB.out.size _).setCell (p := ⟨w.heap.size, 0, none⟩) (Nat.le_refl _) _).setCell (p := ⟨w.heap.size, 1, none⟩) (Nat.le_refl _) _).drew, HR.out, rfl⟩
end Go.Proofs.Ytihmmmodimionaa.Tr
