/- A calculus for calls of the program: canonical values and heaps, and what each operation, loop and call does to them; no condition on the program. -/
import Derived.Test.YtchadfgdcncpkaaGreatCx26
namespace Go.Cx
open Go.RowKit
/-! ### A drawn call in whose heap the callee's blocks stand first, and are written -/
def zipI : Nat → List Blk → List (Nat × Blk)
  | _, [] => []
  | i, b :: bs => (i, b) :: zipI (i + 1) bs
theorem zipW_id {f : Nat → Nat} {m : Nat} (hf : ∀ i, i < m → f i = i) : ∀ (bs : List Blk) (i : Nat), i + bs.length ≤ m → bs.all (Blk.okB m) = true → zipW f i bs = zipI i bs
  | [], _, _, _ => rfl
  | b :: bs, i, hi, h => by
    rw [List.all_cons, Bool.and_eq_true] at h
    rw [List.length_cons] at hi
    rw [zipW, zipI, hf i (by omega), mvB_id hf h.1, zipW_id hf bs (i + 1) (by omega) h.2]
variable {P : Program} {g : FuncId}
theorem Eff.hereT {args : List V} {h0 h1 : List Blk} {v : V} (e : Eff P g args h0 h1 v) (hl : h1.length = h0.length) (ι : List Nat) (rest : Heap) {h : Heap} (nid : Nat) (hnid : h.length = nid) (hh : h = hpOf h0 ++ rest) (hι : List.range h0.length = ι) :
    CallT (CallR P g) args h nid ⟨v, zipI 0 h1, ι ++ (zipI 0 h1).map (·.1), 0, none⟩ := by
  subst hh hι
  have hid : ∀ i, i < h0.length → iot (List.range h0.length) nid i = i := iot_range
  have := e.callT (h := hpOf h0 ++ rest) (List.range h0.length) nid hnid (args_id hid e.args).symm List.nodup_range (by
    rw [List.all_eq_true]
    intro i hi
    rw [Nat.blt_eq, ← hnid, List.length_append, hpOf_len]
    have := List.mem_range.1 hi
    omega) (by
    rw [hpOf_id hid e.ok0]
    have := map_hget_pre (hpOf h0) rest
    rwa [hpOf_len] at this)
  have hid1 : ∀ i, i < h1.length → iot (List.range h0.length) nid i = i := by rw [hl]; exact hid
  rw [mv_id (m := h1.length) hid1 e.res, zipW_id hid1 h1 0 (by omega) e.ok1, hl, Nat.sub_self] at this
  exact this
end Go.Cx
