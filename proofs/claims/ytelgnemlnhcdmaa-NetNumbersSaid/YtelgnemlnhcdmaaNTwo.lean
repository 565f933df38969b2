/- A net, and the list that the statement keeps beside it. -/
import Derived.Test.YtelgnemlnhcdmaaNAll
namespace Go.Proofs.Ytelgnemlnhcdmaa
open Go.RowKit

def Two (w : World) (room : Int) (ns ms : List MsgT) (mv : Value) (wr : World) : Prop :=
  ∃ F css, NetAt wr w.heap.size F w.heap.size room ns ∧ Below w.heap.size w wr ∧ wr.ownsRow w.heap.size 31 10 mv ms.length css.flatten ∧ RowsOf RMsg 10 wr (fun k => k < w.heap.size) css ms ∧ (∀ k, mv.ownBlock = some k → ¬ F k)
theorem Two.start (w : World) (room : Int) : Two w room [] [] (.slice none 0 0) (w.alloc (.cells #[.int .i64 room, .slice none 0 0] 45)) :=
  ⟨_, [], NetAt.new w w.heap.size room (Nat.le_refl _), (Below.refl _ _).alloc (Nat.le_refl _) _, World.ownsRow_nil _ _ _ _, RowsOf.nil RMsg 10 _ _, fun k e => by simp [Value.ownBlock] at e⟩
theorem Two.below {w wr w' : World} {room : Int} {ns ms : List MsgT} {mv : Value} (h : Two w room ns ms mv wr) (hb : Below wr.heap.size wr w') : Two w room ns ms mv w' := by
  obtain ⟨F, css, h1, h2, h3, h4, h5⟩ := h
  have hz := h2.size
  exact ⟨F, css, h1.below hb, h2.trans (hb.mono hz), own_below h3 hb, RowsOf.keep RMsg.kept h4 (fun k hk => hb.block k (by omega)) (fun _ g => g), h5⟩
theorem Two.turned {w wr w' : World} {F : Nat → Prop} {css : List (List Value)} {room : Int} {ns ns' ms : List MsgT} {mv : Value} (h1 : NetAt wr w.heap.size F w.heap.size room ns) (h2 : Below w.heap.size w wr) (h3 : wr.ownsRow w.heap.size 31 10 mv ms.length css.flatten) (h4 : RowsOf RMsg 10 wr (fun k => k < w.heap.size) css ms) (h5 : ∀ k, mv.ownBlock = some k → ¬ F k)
    (ht : NetTurned wr w.heap.size F w.heap.size room ns' w') : Two w room ns' ms mv w' := by
  obtain ⟨F', g1, g2, g3⟩ := ht
  have hl := h1.lt
  have hz := h2.size
  refine ⟨F', css, g1, h2.trans (g3.below (fun k hk => (hl.2 k hk).1) hz), own_touch h3 g3 h5, RowsOf.keep RMsg.kept h4 (fun k hk => g3.block k (by omega) (fun e => by have := (hl.2 k e).1; omega)) (fun _ g => g), fun k e hk => ?_⟩
  rcases g2 k hk with e2 | e2
  · exact h5 k e e2
  · have := h3.lt k e; omega
theorem Two.append {w wr w2 : World} {F : Nat → Prop} {css : List (List Value)} {room : Int} {ns ms : List MsgT} {mv v2 : Value} {y : MsgT} {cs : List Value} {L : Obj} (h1 : NetAt wr w.heap.size F w.heap.size room ns) (h2 : Below w.heap.size w wr) (h3 : wr.ownsRow w.heap.size 31 10 mv ms.length css.flatten) (h4 : RowsOf RMsg 10 wr (fun k => k < w.heap.size) css ms) (h5 : ∀ k, mv.ownBlock = some k → ¬ F k)
    (hy : RMsg wr (fun k => k < w.heap.size) cs y) (hcs : cs.length = 10) (hown : w2.ownsRow w.heap.size 31 10 v2 (ms.length + 1) (css.flatten ++ cs)) (hg : (wr.alloc L).grownBy w2 mv.ownBlock) (hat : v2.ownBlock = mv.ownBlock ∨ v2.ownBlock = some (wr.alloc L).heap.size) : Two w room ns (ms ++ [y]) v2 w2 := by
  have ht : Touch (fun k => mv.ownBlock = some k) wr w2 := (Touch.alloc _ wr L).trans (Touch.grown hg (fun g _ e => e)) (fun _ _ h => h)
  have hz := h2.size
  have hlt := h3.lt
  have hl := h1.lt
  have hk : ∀ k, k < w.heap.size → w2.heap[k]? = wr.heap[k]? := fun k hk => ht.block k (by omega) (fun e => by have := hlt k e; omega)
  refine ⟨F, css ++ [cs], h1.touch ht (fun k hk e => h5 k e hk), h2.trans (ht.below (fun k e => (hlt k e).1) hz), by rw [List.length_append]; simpa using hown, (RowsOf.keep RMsg.kept h4 hk (fun _ g => g)).snoc hcs (RMsg.kept.keep hy hk (fun _ g => g)), fun k e hk => ?_⟩
  rcases hat with e2 | e2
  · exact h5 k (e2 ▸ e) hk
  · rw [e2] at e; simp at e; have := (hl.2 k hk).2; omega
theorem Two.fresh {w wr w2 : World} {F : Nat → Prop} {css : List (List Value)} {room : Int} {ns ms : List MsgT} {v2 : Value} {i : Nat} (h1 : NetAt wr w.heap.size F w.heap.size room ns) (h2 : Below w.heap.size w wr) (h4 : RowsOf RMsg 10 wr (fun k => k < w.heap.size) css ms) (hi : i < ms.length)
    (hb : Below wr.heap.size wr w2) (hown : w2.ownsRow wr.heap.size 31 10 v2 (i + (ms.length - (i + 1))) ((css.take i).flatten ++ (css.drop (i + 1)).flatten)) : Two w room ns (ms.eraseIdx i) v2 w2 := by
  have hz := h2.size
  have hl := h1.lt
  refine ⟨F, css.eraseIdx i, h1.below hb, h2.trans (hb.mono hz), ?_, RowsOf.keep RMsg.kept (h4.erase i) (fun k hk => hb.block k (by omega)) (fun _ g => g), fun k e hk => ?_⟩
  · rw [List.length_eraseIdx, if_pos hi, List.eraseIdx_eq_take_drop_succ, List.flatten_append]
    have e : i + (ms.length - (i + 1)) = ms.length - 1 := by omega
    rw [e] at hown
    exact own_rebase hown hz
  · have := hown.lt k e; have := (hl.2 k hk).2; omega

/-- What holds at each round. -/
def PlayIn (w : World) (room : Int) (mv : Value) (wr : World) : Prop := ∃ ms : List MsgT, (ms.length : Int) ≤ room ∧ Smalls ms ∧ Two w room ms ms mv wr
structure AskT where
  kind : Int
  n : Int
  m : MsgT
instance : Inhabited AskT := ⟨⟨0, 0, default⟩⟩
def RAsk : Rep AskT := fun w S cs x => ∃ cm, cs = .int .i64 x.kind :: .int .i64 x.n :: cm ∧ RMsg w S cm x.m
theorem RAsk.kept : Rep.Kept RAsk := ⟨fun ⟨cm, hv, h⟩ hk hS => ⟨cm, hv, RMsg.kept.keep h hk hS⟩⟩
def VotesOk (x : MsgT) : Prop := ∀ v ∈ x.l, v.v.length ≤ 140737488351232
theorem few_small {x : MsgT} (h : VotesOk x) : Small (fewT x) := by
  refine ⟨?_, ?_, fun v hv => h v (List.mem_of_mem_take hv)⟩
  · show (x.b.take 20).length ≤ _; rw [List.length_take]; omega
  · show (x.l.take 3).length ≤ _; rw [List.length_take]; omega
theorem Smalls.snoc {ms : List MsgT} {x : MsgT} (h : Smalls ms) (hx : Small x) : Smalls (ms ++ [x]) := fun m hm => by
  rcases List.mem_append.1 hm with e | e
  · exact h m e
  · simp at e; subst e; exact hx
theorem Smalls.erase {ms : List MsgT} (h : Smalls ms) (i : Nat) : Smalls (ms.eraseIdx i) := fun m hm => h m (List.mem_of_mem_eraseIdx hm)
end Go.Proofs.Ytelgnemlnhcdmaa
