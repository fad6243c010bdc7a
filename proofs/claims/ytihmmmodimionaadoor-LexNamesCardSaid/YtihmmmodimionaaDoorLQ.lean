import Derived.Test.YtihmmmodimionaaDoorLP
import Derived.Test.YtihmmmodimionaaDoorLX
import Derived.Test.YtihmmmodimionaaDoorJ
namespace Go.Proofs.YtihmmmodimionaaDoor.Lx
open Go.RowKit

theorem T_of {b : ByteArray} {l : List UInt8} (h : T b = l) : b = ⟨l.toArray⟩ := by
  subst h
  unfold T
  cases b
  rfl
theorem lines_w : linRes (T ⟨#[97, 32, 32, 98, 10, 33, 32, 99, 10, 10, 32, 100]⟩) = ([⟨0, 1, [⟨[97], 1⟩, ⟨[98], 4⟩]⟩, ⟨1, 4, [⟨[100], 2⟩]⟩], 0, 0, 0) := by kernel_rfl
theorem toks_w : tokRes (T ⟨#[97, 32, 123, 32, 98, 32, 34, 99, 32, 100, 34, 59, 32, 125, 32, 35, 32, 101]⟩) = ([⟨1, [97], 1, 1⟩, ⟨2, [123], 1, 3⟩, ⟨1, [98], 1, 5⟩, ⟨1, [99, 32, 100], 1, 7⟩, ⟨4, [59], 1, 12⟩, ⟨3, [125], 1, 14⟩], 0, 0, 0) := by kernel_rfl
theorem own_at {w : World} {base size n : Nat} {t : TypeId} {v : Value} {xs : List Value} (h : w.ownsRow base t size v n xs) (hn : 0 < n) : ∃ g c, v = .slice (some ⟨g, 0, none⟩) n c := by
  rcases h.2 with ⟨rfl, h0⟩ | ⟨g, cap, cur, rfl, h1, h2, h3, h4, h5, h6⟩
  · omega
  · exact ⟨g, cap, rfl⟩
theorem works_l {bs : List BLn} (h : bs.map BLn.ln = [⟨0, 1, [⟨[97], 1⟩, ⟨[98], 4⟩]⟩, ⟨1, 4, [⟨[100], 2⟩]⟩]) : ∃ v0 l0 a b v1 l1 c, bs = [⟨0, l0, v0, [a, b]⟩, ⟨1, l1, v1, [⟨⟨#[100]⟩, c⟩]⟩] := by
  rcases bs with _ | ⟨⟨i0, l0, v0, _ | ⟨a, _ | ⟨b, _ | ⟨_, _⟩⟩⟩⟩, _ | ⟨⟨i1, l1, v1, _ | ⟨⟨d, c⟩, _ | ⟨_, _⟩⟩⟩, _ | ⟨_, _⟩⟩⟩ <;> try (simp [BLn.ln] at h; done)
  · simp only [List.map_cons, BLn.ln, BWd.wd, List.map_nil, List.cons.injEq, Ln.mk.injEq, Wd.mk.injEq, and_true] at h
    obtain ⟨⟨rfl, _⟩, rfl, _, hd, _⟩ := h
    obtain rfl := T_of hd
    exact ⟨v0, l0, a, b, v1, l1, c, rfl⟩
theorem works_t {bs : List BTok} (h : bs.map BTok.tok = [⟨1, [97], 1, 1⟩, ⟨2, [123], 1, 3⟩, ⟨1, [98], 1, 5⟩, ⟨1, [99, 32, 100], 1, 7⟩, ⟨4, [59], 1, 12⟩, ⟨3, [125], 1, 14⟩]) : ∃ a b c k l p d t l2 p2, bs = [a, b, c, ⟨k, ⟨#[99, 32, 100]⟩, l, p⟩, d, ⟨3, t, l2, p2⟩] := by
  rcases bs with _ | ⟨a, _ | ⟨b, _ | ⟨c, _ | ⟨⟨k, x, l, p⟩, _ | ⟨d, _ | ⟨⟨k2, t, l2, p2⟩, _ | ⟨_, _⟩⟩⟩⟩⟩⟩⟩ <;> try (simp at h; done)
  · simp only [List.map_cons, BTok.tok, List.map_nil, List.cons.injEq, Tok.mk.injEq, and_true] at h
    obtain ⟨_, _, _, ⟨_, hd, _⟩, _, rfl, _⟩ := h
    obtain rfl := T_of hd
    exact ⟨a, b, c, k, l, p, d, t, l2, p2, rfl⟩

set_option maxRecDepth 100000 in
set_option maxHeartbeats 1000000 in
theorem works_any (w : World) (m : Int) (hm : w.cell? ⟨0, 0, none⟩ = some (.int .i64 m)) :
    Calls Tryd.prog 12 #[] w fun e w' => e = .returned (.bool true) ∧ Below w.heap.size w w' := by
  have hl := fun W hW => lines_any ⟨#[97, 32, 32, 98, 10, 33, 32, 99, 10, 10, 32, 100]⟩ W (by decide) m hW
  have ht := fun W hW => tokens_any ⟨#[97, 32, 123, 32, 98, 32, 34, 99, 32, 100, 34, 59, 32, 125, 32, 35, 32, 101]⟩ W (by decide) m hW
  simp only [lines_w] at hl
  simp only [toks_w] at ht
  have HL := hide hl
  have HT := hide ht
  have h0 := lt_of_cell hm
  simp only at h0
  have HM := hide hm
  clear hl ht hm
  go_enter Tryd.func12, Tryd.ntmps12
  go_wp2_with fail
  refine (HL.out _ HM.out).mono ?_; rintro e1 w1 ⟨va, as_, hba, rfl, hoa, hia, hb1, hla, hwa⟩
  obtain ⟨v0, l0, a, b, v1, l1, c, rfl⟩ := works_l hba
  have HOA := hide (show w1.ownsRow w.heap.size 35 2 va 2 [.int .i64 0, v0, .int .i64 1, v1] from hoa)
  have HI0 := hide (show w1.ownsRow w.heap.size 37 3 v0 2 _ from hia _ (List.mem_cons_self ..))
  have HI1 := hide (show w1.ownsRow w.heap.size 37 3 v1 1 [.string ⟨#[100]⟩, .int .i64 l1, .int .i64 c] from hia _ (List.mem_cons_of_mem _ (List.mem_cons_self ..)))
  have HB1 := hide hb1
  clear hoa hia hb1 hba hla hwa
  obtain ⟨g, cg, rfl⟩ := own_at HOA.out (by decide)
  obtain ⟨g0, c0, rfl⟩ := own_at HI0.out (by decide)
  obtain ⟨g1, c1, rfl⟩ := own_at HI1.out (by decide)
  have hm2 : ∀ o, (w1.alloc o).cell? ⟨0, 0, none⟩ = some (.int .i64 m) := fun o => by
    rw [(HB1.out.alloc HB1.out.size o).cell (p := ⟨0, 0, none⟩) h0]; exact HM.out
  have HM2 := hide hm2
  clear hm2
  go_wp2_with fail
  refine (HT.out _ (HM2.out _)).mono ?_; rintro e2 w2 ⟨vt, ts, hbt, rfl, hot, hb2, hlt⟩
  obtain ⟨ta, tb, tc, tk, tl, tp, td, tt, tl2, tp2, rfl⟩ := works_t hbt
  have HOT := hide (show w2.ownsRow _ 45 4 vt 6 _ from hot)
  obtain ⟨gt, ct, rfl⟩ := own_at HOT.out (by decide)
  have HOA2 := hide (fun o => (own_below (HOA.out.alloc _) hb2).alloc o)
  have HI02 := hide (fun o => (own_below (HI0.out.alloc _) hb2).alloc o)
  have HI12 := hide (fun o => (own_below (HI1.out.alloc _) hb2).alloc o)
  have HB2 := hide (below_wide (HB1.out.alloc HB1.out.size _) hb2)
  clear hot hb2 hbt hlt
  have c1 := fun o => (HOA2.out o).cellAt 1 (by decide)
  have c2 := fun o => (HOA2.out o).cellAt 2 (by decide)
  have c3 := fun o => (HOA2.out o).cellAt 3 (by decide)
  have d0 := fun o => (HI12.out o).cellAt 0 (by decide)
  have t0 := fun o => (HOT.out.alloc o).cellAt 13 (by decide)
  have t1 := fun o => (HOT.out.alloc o).cellAt 20 (by decide)
  simp only [List.getElem?_cons_succ, List.getElem?_cons_zero, List.flatMap_cons, BTok.cells, List.cons_append, List.nil_append] at c1 c2 c3 d0 t0 t1
  go_wp2_with fail
  go_ret
  exact ⟨rfl, HB2.out.alloc HB2.out.size _⟩
end Go.Proofs.YtihmmmodimionaaDoor.Lx
