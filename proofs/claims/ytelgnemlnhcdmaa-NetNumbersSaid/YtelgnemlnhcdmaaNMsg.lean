/- Messages in memory, and the contract of slices.Delete of one of them. -/
import Derived.Test.YtelgnemlnhcdmaaBytes
import Derived.Test.YtelgnemlnhcdmaaWithin
import Derived.Deep.RegionHeld3
import Derived.Deep.RegionLaw
import Derived.Deep.MidRow
namespace Go.Proofs.Ytelgnemlnhcdmaa
open Go.RowKit

structure VoteT where
  slot : Int
  ballot : Int
  v : List UInt8
instance : Inhabited VoteT := ⟨⟨0, 0, []⟩⟩
structure MsgT where
  kind : Int
  group : Int
  src : Int
  dst : Int
  ballot : Int
  slot : Int
  client : Int
  seq : Int
  b : List UInt8
  l : List VoteT
instance : Inhabited MsgT := ⟨⟨0, 0, 0, 0, 0, 0, 0, 0, [], []⟩⟩

def RVote : Rep VoteT := fun w S cs x => ∃ bv, cs = [.int .i64 x.slot, .int .i64 x.ballot, bv] ∧ BytesAt w S bv x.v
theorem RVote.kept : Rep.Kept RVote := ⟨fun ⟨bv, hv, h⟩ hk hS => ⟨bv, hv, SliceOf.keep RByte.kept h hk hS⟩⟩
abbrev RVotes : Rep (List VoteT) := RSlice RVote 3
theorem RVotes.kept : Rep.Kept RVotes := RSlice.kept RVote.kept 3
def RMsg : Rep MsgT := fun w S cs x => ∃ bv lv, cs = [.int .i64 x.kind, .int .i64 x.group, .int .i64 x.src, .int .i64 x.dst, .int .i64 x.ballot, .int .i64 x.slot, .int .i64 x.client, .int .i64 x.seq, bv, lv] ∧ BytesAt w S bv x.b ∧ SliceOf RVote 3 w S lv x.l
theorem RMsg.kept : Rep.Kept RMsg := ⟨fun ⟨bv, lv, hv, h, h2⟩ hk hS => ⟨bv, lv, hv, SliceOf.keep RByte.kept h hk hS, SliceOf.keep RVote.kept h2 hk hS⟩⟩
theorem vote_info : (Try.prog.info? 52).map (fun i => (i.zero, i.size, i.bytes)) = some (some (.agg #[.int .i64 0, .int .i64 0, .slice none 0 0]), 3, 40) := by kernel_rfl
abbrev msgZero : List Value := [.int .i64 0, .int .i64 0, .int .i64 0, .int .i64 0, .int .i64 0, .int .i64 0, .int .i64 0, .int .i64 0, .slice none 0 0, .slice none 0 0]
theorem msg_info : (Try.prog.info? 31).map (fun i => (i.zero, i.size, i.bytes)) = some (some (.agg #[.int .i64 0, .int .i64 0, .int .i64 0, .int .i64 0, .int .i64 0, .int .i64 0, .int .i64 0, .int .i64 0, .slice none 0 0, .slice none 0 0]), 10, 112) := by kernel_rfl

/-! ### Many cells of a block at once -/
theorem Blk.many {g : Nat} {t : TypeId} : ∀ (vs : List Value) (o : Nat) (w : World) (cs : Array Value), Blk w g t cs → o + vs.length ≤ cs.size → ∃ cs', Blk (w.setCells g o vs) g t cs' ∧ cs'.size = cs.size ∧ cs'.toList = cs.toList.take o ++ vs ++ cs.toList.drop (o + vs.length)
  | [], o, w, cs, h, _ => ⟨cs, h, rfl, by simp⟩
  | v :: r, o, w, cs, h, ho => by
    simp only [List.length_cons] at ho
    obtain ⟨cs', h1, h2, h3⟩ := Blk.many r (o + 1) (w.setCell ⟨g, o, none⟩ v) _ (h.set o v) (by rw [Array.size_setIfInBounds]; omega)
    refine ⟨cs', h1, by rw [h2, Array.size_setIfInBounds], ?_⟩
    rw [h3]
    have hl : cs.toList.length = cs.size := by simp
    rw [Array.toList_setIfInBounds, List.drop_set_of_lt (by omega), List.take_set, List.take_add_one]
    have hg : cs.toList[o]? = some cs.toList[o] := List.getElem?_eq_getElem (by omega)
    rw [hg]
    simp only [Option.toList_some, List.length_cons]
    rw [List.set_append_right _ _ (by rw [List.length_take]; omega)]
    rw [List.length_take, Nat.min_eq_left (by omega)]
    simp
    congr 1
    omega
theorem Touch.many {T : Nat → Prop} {g : Nat} (hT : T g) : ∀ (vs : List Value) (o : Nat) (w : World), Touch T w (w.setCells g o vs)
  | [], _, w => Touch.refl T w
  | v :: r, o, w => (Touch.setCell (p := ⟨g, o, none⟩) w v (fun _ => hT)).trans (Touch.many hT r (o + 1) _) (fun _ _ h => h)
end Go.Proofs.Ytelgnemlnhcdmaa
