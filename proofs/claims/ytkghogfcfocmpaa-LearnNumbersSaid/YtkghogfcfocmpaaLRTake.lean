/- The reference's Take. -/
import Derived.Test.YtkghogfcfocmpaaLRForget
import Derived.Test.YtkghogfcfocmpaaLWide
import Derived.Deep.CutRange
namespace Go.Proofs.Ytkghogfcfocmpaa
open Go.RowKit

def hits (L : List TakeT) (s b : Int) : List TakeT := L.filter fun x => decide (x.slot = s ∧ x.b = b)
def badIn (L : List TakeT) (s b : Int) (v : List UInt8) : Bool := (hits L s b).any fun x => decide (x.v ≠ v)
def mineIn (L : List TakeT) (s b f : Int) : Bool := (hits L s b).any fun x => decide (x.frm = f)
def oneMore (m : Bool) : Nat := if m then 0 else 1
def withL (L : List TakeT) (s b f : Int) (v : List UInt8) : List TakeT := if mineIn L s b f then L else L ++ [⟨s, b, f, v⟩]
/-- What the reference's Take makes of a vote within its bounds. -/
def RTook (n : Int) (L : List TakeT) (Ds : List DoneT) (s b f : Int) (v : List UInt8) : Bool × List TakeT × List DoneT :=
  if badIn L s b v then (false, L, Ds)
  else (true, withL L s b f v, if doneAt Ds s = none ∧ n / 2 + 1 ≤ (((hits L s b).length + oneMore (mineIn L s b f) : Nat) : Int) then Ds ++ [⟨s, v⟩] else Ds)
theorem hits_snoc (L : List TakeT) (k : Nat) (x : TakeT) (h : L[k]? = some x) (s b : Int) : hits (L.take (k + 1)) s b = hits (L.take k) s b ++ if x.slot = s ∧ x.b = b then [x] else [] := by
  unfold hits
  rw [List.take_add_one, h, Option.toList_some, List.filter_append]
  congr 1
  by_cases hx : x.slot = s ∧ x.b = b <;> simp [hx]
theorem hits_le (L : List TakeT) (s b : Int) : (hits L s b).length ≤ L.length := List.length_filter_le _ _
/-- Where the count stands. -/
def RCount (L : List TakeT) (s b f : Int) (v : List UInt8) (k : Nat) (nv mv : Value) : Prop := nv = .int .i64 (hits (L.take k) s b).length ∧ mv = .bool (mineIn (L.take k) s b f) ∧ badIn (L.take k) s b v = false
theorem RCount.skip {L : List TakeT} {s b f : Int} {v : List UInt8} {k : Nat} {nv mv : Value} (h : RCount L s b f v k nv mv) {x : TakeT} (hx : L[k]? = some x) (hn : ¬ (x.slot = s ∧ x.b = b)) : RCount L s b f v (k + 1) nv mv := by
  obtain ⟨h1, h2, h3⟩ := h
  unfold RCount mineIn badIn
  rw [hits_snoc L k x hx, if_neg hn, List.append_nil]
  exact ⟨h1, h2, h3⟩
theorem RCount.hit {L : List TakeT} {s b f : Int} {v : List UInt8} {k N : Nat} {m : Bool} (h : RCount L s b f v k (.int .i64 N) (.bool m)) {x : TakeT} (hx : L[k]? = some x) (hn : x.slot = s ∧ x.b = b) (hv : x.v = v) : RCount L s b f v (k + 1) (.int .i64 ((N : Int) + 1)) (.bool (m || decide (x.frm = f))) := by
  obtain ⟨h1, h2, h3⟩ := h
  injection h1 with _ h1
  injection h2 with h2
  unfold RCount mineIn badIn
  rw [hits_snoc L k x hx, if_pos hn]
  refine ⟨?_, ?_, ?_⟩
  · rw [h1, List.length_append]; rfl
  · rw [h2, List.any_append]; unfold mineIn; simp
  · rw [List.any_append]; unfold badIn at h3; rw [h3]; simp [hv]
theorem RCount.bad {L : List TakeT} {s b : Int} {v : List UInt8} {k : Nat} {x : TakeT} (hx : L[k]? = some x) (hn : x.slot = s ∧ x.b = b) (hv : ¬ x.v = v) : badIn L s b v = true := by
  unfold badIn hits
  rw [List.any_eq_true]
  exact ⟨x, List.mem_filter.2 ⟨List.mem_of_getElem? hx, decide_eq_true hn⟩, by simpa using hv⟩
/-- A row copied, and one more put behind it, in memory of the call's own. -/
theorem copy_push {α : Type} {R : Rep α} (hR : Rep.Kept R) {size : Nat} {e : TypeId} {w w1 w2 w3 : World} {S : Nat → Prop} {css : List (List Value)} {l : List α} {x : α} {cs : List Value} {v1 v2 v3 : Value} {u : List UInt8} {O1 O2 O3 : Obj}
    (hrow : RowsOf R size w S css l) (hS : ∀ k, S k → k < w.heap.size)
    (hg1 : (w.alloc O1).grownBy w1 (some w.heap.size)) (hown1 : w1.ownsRow w.heap.size e size v1 l.length css.flatten)
    (hg2 : (w1.alloc O2).grownBy w2 (some w1.heap.size)) (hown2 : w2.ownsRow w1.heap.size 5 1 v2 u.length (u.map byteV))
    (hg3 : (w2.alloc O3).grownBy w3 v1.ownBlock) (hown3 : w3.ownsRow w.heap.size e size v3 (l.length + 1) (css.flatten ++ cs))
    (hlen : cs.length = size) (hx : ∀ W (S2 : Nat → Prop), BytesAt W S2 v2 u → R W S2 cs x) :
    Below w.heap.size w w3 ∧ Owns R size e w3 w.heap.size (fun k => S k ∨ (w.heap.size ≤ k ∧ k < w3.heap.size)) v3 (l ++ [x]) := by
  have b1 : Below w.heap.size w w1 := ((Below.refl _ _).alloc (Nat.le_refl _) _).grown hg1 (by simp) (fun k e => by simp at e; omega)
  have b2 : Below w1.heap.size w1 w2 := ((Below.refl _ _).alloc (Nat.le_refl _) _).grown hg2 (by simp) (fun k e => by simp at e; omega)
  have z1 := b1.size
  have z2 := b2.size
  have b3 : Below w.heap.size w2 w3 := ((Below.refl _ _).alloc (by omega) _).grown hg3 (by simp; omega) (fun k e => (own_lt hown1 e).1)
  have z3 := b3.size
  have b : Below w.heap.size w w3 := (b1.trans (b2.mono z1)).trans b3
  refine ⟨b, ?_⟩
  have t3 : Touch (fun k => v1.ownBlock = some k) w2 w3 := (Touch.alloc _ w2 O3).trans (Touch.grown hg3 (fun g _ e => e)) (fun _ _ h => h)
  have hB2 : BytesAt w2 (fun k => w1.heap.size ≤ k ∧ k < w2.heap.size) v2 u := Owns.slice RByte.kept (owns_bytes (S := fun _ => False) hown2) (fun _ g => g.elim) (fun k e => own_lt hown2 e)
  have hB3 : BytesAt w3 (fun k => S k ∨ (w.heap.size ≤ k ∧ k < w3.heap.size)) v2 u := SliceOf.touch RByte.kept hB2 t3 (fun k hk => ⟨hk.2, fun e => by have := own_lt hown1 e; omega⟩) (fun k hk => .inr ⟨by omega, by omega⟩)
  exact owns_snoc hR hrow (fun k hk => b.block k (hS k hk)) (fun k hk => .inl hk) hlen (hx w3 _ hB3) hown3
set_option maxRecDepth 100000 in
set_option maxHeartbeats 2000000 in
theorem rtake_out {w : World} {base : Nat} {S : Nat → Prop} {M : Nat} {n low : Int} {L : List TakeT} {Ds : List DoneT} {lv dv : Value} (slot b src : Int) (vv : Value) (h : RefAt w base S M n low L Ds lv dv) (hlow : 0 ≤ low) (hlow2 : low ≤ 1073741824) (ho : ¬ InReach n low slot b src) :
    Calls Try.prog 25 #[.pointer (some ⟨M, 0, none⟩), .int .i64 slot, .int .i64 b, .int .i64 src, vv] w fun e w' => e = .returned (.bool false) ∧ w' = w := by
  have k0 : w.cell? ⟨M, 0, none⟩ = some (.int .i64 n) := h.blk.cell 0
  have k1 : w.cell? ⟨M, 1, none⟩ = some (.int .i64 low) := h.blk.cell 1
  have Ho := Lib.hid ho
  clear h ho
  by_cases q1 : slot < low
  · have d1 : decide (slot < low) = true := decide_eq_true q1
    go_enter Try.func25, Try.ntmps25
    go_wp2_with fail
    go_ret
    exact ⟨rfl, rfl⟩
  · have d1 : decide (slot < low) = false := decide_eq_false q1
    by_cases q2 : low + 32 ≤ slot
    · have d2 : decide (low + 32 ≤ slot) = true := decide_eq_true q2
      go_enter Try.func25, Try.ntmps25
      go_wp2_with fail
      go_ret
      exact ⟨rfl, rfl⟩
    · have d2 : decide (low + 32 ≤ slot) = false := decide_eq_false q2
      by_cases q3 : b < 0
      · have d3 : decide (b < 0) = true := decide_eq_true q3
        go_enter Try.func25, Try.ntmps25
        go_wp2_with fail
        go_ret
        exact ⟨rfl, rfl⟩
      · have d3 : decide (b < 0) = false := decide_eq_false q3
        by_cases q4 : 1073741824 < b
        · have d4 : decide (1073741824 < b) = true := decide_eq_true q4
          go_enter Try.func25, Try.ntmps25
          go_wp2_with fail
          go_ret
          exact ⟨rfl, rfl⟩
        · have d4 : decide (1073741824 < b) = false := decide_eq_false q4
          by_cases q5 : src < 0
          · have d5 : decide (src < 0) = true := decide_eq_true q5
            go_enter Try.func25, Try.ntmps25
            go_wp2_with fail
            go_ret
            exact ⟨rfl, rfl⟩
          · have d5 : decide (src < 0) = false := decide_eq_false q5
            have q6 : n ≤ src := by
              have := Ho.out
              unfold InReach at this
              omega
            have d6 : decide (n ≤ src) = true := decide_eq_true q6
            go_enter Try.func25, Try.ntmps25
            go_wp2_with fail
            go_ret
            exact ⟨rfl, rfl⟩
end Go.Proofs.Ytkghogfcfocmpaa
