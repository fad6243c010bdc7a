import Derived.Test.YtopckpjhdbjmbaaDoorBase
namespace Go.Proofs.YtopckpjhdbjmbaaDoor.Lx
open Go.RowKit

def T (b : ByteArray) : List UInt8 := b.data.toList
theorem T_len (b : ByteArray) : (T b).length = b.size := by unfold T; exact Array.length_toList
theorem T_get (b : ByteArray) (k : Nat) (h : k < b.size) : (T b)[k]? = some b[k] := by
  unfold T
  rw [Array.getElem?_toList]
  exact Array.getElem?_eq_getElem h
theorem T_drop (b : ByteArray) (k : Nat) (h : k < b.size) : (T b).drop k = b[k] :: (T b).drop (k + 1) := by
  have hl : k < (T b).length := by rw [T_len]; exact h
  rw [List.drop_eq_getElem_cons hl]
  have := T_get b k h
  rw [List.getElem?_eq_getElem hl] at this
  injection this with this
  rw [this]
theorem T_take (b : ByteArray) (k : Nat) (h : k < b.size) : (T b).take (k + 1) = (T b).take k ++ [b[k]] := by
  have hl : k < (T b).length := by rw [T_len]; exact h
  rw [List.take_add_one, T_get b k h]
  rfl
theorem T_extract (b : ByteArray) (i j : Nat) : T (b.extract i j) = ((T b).take j).drop i := by
  unfold T
  rw [ByteArray.data_extract, Array.toList_extract]
  exact List.extract_eq_drop_take'
theorem T_head (b : ByteArray) (n : Nat) : T (b.extract 0 n) = (T b).take n := by rw [T_extract, List.drop_zero]
theorem T_tail (b : ByteArray) (n : Nat) : T (b.extract n b.size) = (T b).drop n := by rw [T_extract, List.take_of_length_le (by rw [T_len]; exact Nat.le_refl _)]
theorem size_T (b : ByteArray) : b.size = (T b).length := (T_len b).symm
theorem u8_eq (x : UInt8) (n : Nat) (h : n < 256) : x = UInt8.ofNat n ↔ x.toNat = n := by
  constructor
  · intro e; rw [e]; simp; omega
  · intro e; rw [← e]; simp
theorem eq10 (x : UInt8) : x = 10 ↔ x.toNat = 10 := u8_eq x 10 (by omega)
theorem beq_it {x n : Int} (h : x = n) : (x == n) = true := by simp [h]
theorem beq_if {x n : Int} (h : ¬ x = n) : (x == n) = false := by simp [h]
theorem heap_new2 (w : World) (o p : Obj) : ((w.alloc o).alloc p).heap[w.heap.size + 1]? = some p := by
  have h := heap_new (w.alloc o) p
  rwa [World.size_alloc] at h
end Go.Proofs.YtopckpjhdbjmbaaDoor.Lx
