import Derived.Test.YtafgeppdchnceaaOwnRow
namespace Go.Sat
open Go
theorem foldl_set : ∀ (cs : List Value) (k : Nat) (arr : Array Value), k + cs.length ≤ arr.size →
    ((cs.zipIdx k).foldl (fun a x => a.setIfInBounds x.snd x.fst) arr).toList = arr.toList.take k ++ cs ++ arr.toList.drop (k + cs.length)
  | [], k, arr, h => by simp
  | u :: cs, k, arr, h => by
    simp only [List.length_cons] at h
    simp only [List.zipIdx_cons, List.foldl_cons]
    rw [foldl_set cs (k + 1) _ (by simp; omega)]
    simp only [Array.toList_setIfInBounds]
    rw [List.take_succ_eq_append_getElem (by simp; omega), List.getElem_set_self, List.take_set_of_le (Nat.le_refl _), List.drop_set_of_lt (by omega), List.length_cons]
    simp [Nat.add_comm, Nat.add_left_comm]
theorem foldl_row {x : List UInt8} (hx : x.length = 32) (arr : Array Value) (ha : arr.size = 32) : (bcells x).zipIdx.foldl (fun a x => a.setIfInBounds x.snd x.fst) arr = (bcells x).toArray := by
  apply Array.toList_inj.1
  have h := foldl_set (bcells x) 0 arr (by simp [hx, ha])
  rw [show (bcells x).zipIdx = (bcells x).zipIdx 0 from rfl, h]
  have e : arr.toList.drop (0 + (bcells x).length) = [] := List.drop_of_length_le (by simp [hx, ha])
  rw [e]; simp
end Go.Sat
