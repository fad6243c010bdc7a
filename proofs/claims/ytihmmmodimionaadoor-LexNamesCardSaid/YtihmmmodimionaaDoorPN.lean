/- Plain words on long rows of one byte. No program is in sight. -/
import Derived.Test.YtihmmmodimionaaDoorPG
namespace Go.Proofs.YtihmmmodimionaaDoor.Lx
open Go

theorem chkL_as : ∀ (n : Nat) (r : List UInt8) (l c : Int), l ≤ 4096 → chkL (List.replicate n 97 ++ r) l c = chkL r l (c + n) := by
  intro n
  induction n with
  | zero => intro r l c _; simp
  | succ n ih =>
    intro r l c h
    rw [List.replicate_succ, List.cons_append, chkL, if_neg (by omega), if_neg (by decide), if_neg (by decide), ih r l (c + 1) h]
    congr 1
    push_cast
    omega
theorem chkL_rows : ∀ (n : Nat) (r : List UInt8) (l c : Int), l + n ≤ 4097 → chkL (List.replicate n 10 ++ r) l c = chkL r (l + n) (if n = 0 then c else 1) := by
  intro n
  induction n with
  | zero => intro r l c _; simp
  | succ n ih =>
    intro r l c h
    rw [List.replicate_succ, List.cons_append, chkL, if_neg (by push_cast at h; omega), if_pos rfl, ih r (l + 1) 1 (by push_cast at h; omega)]
    simp only [ite_self, Nat.add_one_ne_zero, if_false]
    push_cast
    rw [show l + 1 + (n : Int) = l + ((n : Int) + 1) by omega]
theorem names_a (n : Nat) (h1 : 1 ≤ n) (h : n ≤ 65536) : ∃ x, linRes (List.replicate n 97) = ([x], 0, 0, 0) := by
  have hc : (chk (List.replicate n 97)).2.2 = 0 := by
    unfold chk
    rw [List.length_replicate, if_neg (by omega)]
    have := chkL_as n [] 1 1 (by omega)
    rw [List.append_nil] at this
    rw [this]; rfl
  have hr : rowsOf (List.replicate n 97) [] = [List.replicate n 97] := by
    have := rowsOf_run (List.replicate n 97) [] [] (fun x hx => by rw [List.eq_of_mem_replicate hx]; decide)
    rw [List.append_nil, List.nil_append] at this
    rw [this]; rfl
  have hw : wds (List.replicate n 97) 0 [] = [⟨List.replicate n 97, 1⟩] := by
    have := wds_run (List.replicate n 97) [] 0 [] (fun x hx => by rw [List.eq_of_mem_replicate hx]; decide)
    rw [List.append_nil, List.nil_append] at this
    rw [this, wds, endW, if_neg (by intro h; have := congrArg List.length h; rw [List.length_replicate, List.length_nil] at this; omega)]
    rw [List.length_replicate]
    congr 2
    omega
  have hb : ¬ (List.replicate n (97 : UInt8)).headD 0 = 33 := by
    obtain ⟨k, rfl⟩ : ∃ k, n = k + 1 := ⟨n - 1, by omega⟩
    rw [List.replicate_succ]
    show ¬ (97 : UInt8) = 33
    decide
  refine ⟨⟨1 - 1, 1, [⟨List.replicate n 97, 1⟩]⟩, ?_⟩
  rw [linRes_ok hc, hr, linesOf, linesOf, lineOf_is hw hb]
  rfl
theorem names_b (n : Nat) (h : 65536 < n) : linRes (List.replicate n 97) = ([], 0, 0, 3) := by
  have hc : chk (List.replicate n 97) = (0, 0, 3) := by unfold chk; rw [List.length_replicate, if_pos h]
  rw [linRes_no (by rw [hc]; decide), hc]
theorem names_c : (linRes (List.replicate 4096 10)).2 = (0, 0, 0) := by
  have hc : (chk (List.replicate 4096 10)).2.2 = 0 := by
    unfold chk
    rw [List.length_replicate, if_neg (by omega)]
    have := chkL_rows 4096 [] 1 1 (by omega)
    rw [List.append_nil] at this
    rw [this]; rfl
  rw [linRes_ok hc]
theorem names_d (x : UInt8) : chk (List.replicate 4096 10 ++ [x]) = (4097, 1, 3) := by
  unfold chk
  rw [List.length_append, List.length_replicate, if_neg (show ¬ 65536 < 4096 + [x].length by simp), chkL_rows 4096 [x] 1 1 (by omega), if_neg (by omega), chkL, if_pos (by omega)]
  rfl
theorem names_e (x : UInt8) : linRes (List.replicate 4096 10 ++ [x]) = ([], 4097, 1, 3) ∧ tokRes (List.replicate 4096 10 ++ [x]) = ([], 4097, 1, 3) := by
  rw [linRes_no (by rw [names_d]; decide), tokRes_no (by rw [names_d]; decide), names_d]
  exact ⟨rfl, rfl⟩
theorem set_fill {α : Type} (a b : α) (k n : Nat) (h : k < n) : (List.replicate k a ++ List.replicate (n - k) b).set k a = List.replicate (k + 1) a ++ List.replicate (n - (k + 1)) b := by
  obtain ⟨d, hd⟩ : ∃ d, n - k = d + 1 := ⟨n - k - 1, by omega⟩
  rw [hd, show n - (k + 1) = d by omega, List.set_append_right _ _ (by simp), List.length_replicate, Nat.sub_self, List.replicate_succ, List.set_cons_zero, List.replicate_succ', List.append_assoc]
  rfl
end Go.Proofs.YtihmmmodimionaaDoor.Lx
