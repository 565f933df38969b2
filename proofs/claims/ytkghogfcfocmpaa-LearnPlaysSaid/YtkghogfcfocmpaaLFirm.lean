/- The walk of LearnFirm: it returns true. -/
import Derived.Test.YtkghogfcfocmpaaLFirm2
import Derived.Test.YtkghogfcfocmpaaLKnown
import Derived.Deep.CutRange
namespace Go.Proofs.Ytkghogfcfocmpaa
open Go.RowKit

def FirmRel (w1 : World) (D TW TD : Nat) (k : Int) (l : List LAskT) (i : Nat) (wr : World) : Prop :=
  ∃ ts ds, LearnF (fun g => g = TW ∨ g = TD) w1 D k 0 ts ds wr ∧ FirmInv (k / 2 + 1) (obsOf k (l.take i)) ts ds ∧ WasAt wr TW TD ts ds ∧ ts.length ≤ i ∧ ds.length ≤ i ∧ (∀ t ∈ ts, t.src.length ≤ i) ∧ ∀ t ∈ ts, t.v.length ≤ 1000000000
theorem pick_odd (n : Int) : ∃ r : Nat, r < 3 ∧ (within n 0 1048576).tmod 3 = (r : Nat) := by
  have h := within_bd n 0 1048576 (by omega)
  have h2 := tmod_bd (within n 0 1048576) 3 (by omega)
  have h3 : (within n 0 1048576).tmod 3 = (within n 0 1048576) % 3 := Int.tmod_eq_emod_of_nonneg h.1
  exact ⟨((within n 0 1048576) % 3).toNat, by omega, by omega⟩
theorem odd_cell (w : World) (r : Nat) (h : r < 3) : ∃ k : Int, (k = 1 ∨ k = 3 ∨ k = 5) ∧ (w.alloc (.cells #[.int .i64 1, .int .i64 3, .int .i64 5] 3)).cell? ⟨w.heap.size, r, none⟩ = some (.int .i64 k) := by
  have hc := (Blk.new w 3 #[.int .i64 1, .int .i64 3, .int .i64 5]).cell r
  match r, h with
  | 0, _ => exact ⟨1, by simp, hc⟩
  | 1, _ => exact ⟨3, by simp, hc⟩
  | 2, _ => exact ⟨5, by simp, hc⟩

theorem put_all {W1 wx : World} {D TW TD : Nat} {k low : Int} {ts : List TallyT} {ds : List Nat} (hL : LearnF (fun g => g = TW ∨ g = TD) W1 D k low ts ds wx) (hW : WasAt wx TW TD ts ds) (h1 : W1.heap.size ≤ TW) (h2 : W1.heap.size ≤ TD) (j : Nat) (d : Bool) (u : List UInt8) (hv : d = true → valueOf ts ds j = some u) :
    LearnF (fun g => g = TW ∨ g = TD) W1 D k low ts ds ((wx.setCell ⟨TW, j, none⟩ (.string ⟨List.toArray u⟩)).setCell ⟨TD, j, none⟩ (.bool d)) ∧ WasAt ((wx.setCell ⟨TW, j, none⟩ (.string ⟨List.toArray u⟩)).setCell ⟨TD, j, none⟩ (.bool d)) TW TD ts ds :=
  ⟨hL.touch (T := fun g => g = TW ∨ g = TD) ((Touch.setCell wx _ (fun _ => .inl rfl)).trans (Touch.setCell _ _ (fun _ => .inr rfl)) (fun _ _ h => h)) (fun g hg => ⟨hg, by rcases hg with rfl | rfl <;> assumption⟩), hW.put j d u hv⟩
theorem LearnF.drewN {F : Nat → Prop} {w0 wr : World} {D : Nat} {n low : Int} {ts : List TallyT} {ds : List Nat} (h : LearnF F w0 D n low ts ds wr) (q : Nat) : LearnF F w0 D n low ts ds (wr.drewN q) := h.touch (Touch.drewN (fun _ => False) wr q) (fun _ g => g.elim)
theorem WasAt.drewN {w : World} {TW TD : Nat} {ts : List TallyT} {ds : List Nat} (h : WasAt w TW TD ts ds) (q : Nat) : WasAt (w.drewN q) TW TD ts ds := h.keep (fun _ _ => rfl) (fun _ _ e => e)
theorem conv_nil (W : World) : (convert 32 9 (.slice none 0 0)).run Try.prog W = .ok (.string ⟨List.toArray []⟩) W := conv_bytes (SliceOf.nil RByte 1 W fun _ => False) Try.underlying32 Try.underlying5 Try.underlying9 (fun _ _ => rfl)

theorem LearnF.less {F F' : Nat → Prop} {w0 wr : World} {D : Nat} {n low : Int} {ts : List TallyT} {ds : List Nat} (h : LearnF F w0 D n low ts ds wr) (hF : ∀ k, F' k → F k) : LearnF F' w0 D n low ts ds wr := by
  obtain ⟨tag, lv, dv, h1, h2, h3⟩ := h
  exact ⟨tag, lv, dv, h1, h2, fun k hk => h3 k (hF k hk)⟩
theorem one_byte {w : World} {S : Nat → Prop} {A : Option Addr} {c : Nat} {y : List UInt8} {b0 : Int} (h : BytesAt w S (.slice A y.length c) y) (hy : y = [UInt8.ofNat b0.toNat]) (h0 : 0 ≤ b0) (h4 : b0 ≤ 4) : ∃ yb yo, A = some ⟨yb, yo, none⟩ ∧ S yb ∧ w.cell? ⟨yb, yo, none⟩ = some (.int .u8 b0) := by
  obtain ⟨A', c', hv, _, _, h3⟩ := h.open
  injection hv with e1 e2 e3
  subst e1 hy
  obtain ⟨yb, yo, hA, hS, hc⟩ := h3 (by simp)
  refine ⟨yb, yo, hA, hS, ?_⟩
  have := hc 0 (by simp)
  simp at this
  rw [this]
  congr 2
  omega
/-- Where the count stands. -/
def CountAt (w5 : World) (FB : Nat) (k : Int) (l : List LAskT) (j b0 : Int) (h : Nat) (S : List Int) (wx : World) : Prop :=
  Touch (fun g => g = FB) w5 wx ∧ SeenAt wx FB S ∧ S.length ≤ h ∧ ∀ f, (j, b0, f) ∈ obsOf k (l.take h) → f ∈ S
theorem CountAt.pass {w5 wx : World} {FB : Nat} {k : Int} {l : List LAskT} {j b0 : Int} {h : Nat} {S : List Int} (c : CountAt w5 FB k l j b0 h S wx) (a : LAskT) (ha : l[h]? = some a) (hn : within a.slot 0 7 = j → within a.ballot 0 4 = b0 → within a.frm 0 (k - 1) ∈ S) (q : Nat) : CountAt w5 FB k l j b0 (h + 1) S (wx.drewN q) := by
  obtain ⟨c1, c2, c3, c4⟩ := c
  refine ⟨c1.trans (Touch.drewN (fun _ => False) wx q) (fun _ _ g => g.elim), c2.keep rfl, by omega, fun f hf => ?_⟩
  rw [obs_snoc k l h a ha] at hf
  rcases List.mem_append.1 hf with e | e
  · exact c4 f e
  · simp at e
    obtain ⟨e1, e2, e3⟩ := e
    rw [e3]
    exact hn e1.symm e2.symm
theorem CountAt.count {w5 wx : World} {FB : Nat} {k : Int} {l : List LAskT} {j b0 : Int} {h : Nat} {S : List Int} (c : CountAt w5 FB k l j b0 h S wx) (a : LAskT) (ha : l[h]? = some a) (m : Nat) (hm : within a.frm 0 (k - 1) = m) (hm5 : m < 5) (hn : (m : Int) ∉ S) (q : Nat) : CountAt w5 FB k l j b0 (h + 1) ((m : Int) :: S) ((wx.drewN q).setCell ⟨FB, m, none⟩ (.bool true)) := by
  obtain ⟨c1, c2, c3, c4⟩ := c
  refine ⟨(c1.trans (Touch.drewN (fun _ => False) wx q) (fun _ _ g => g.elim)).trans (Touch.setCell (T := fun g => g = FB) _ _ (fun _ => rfl)) (fun _ _ g => g), (c2.keep (w' := wx.drewN q) rfl).put m hm5 hn, by simp only [List.length_cons]; omega, fun f hf => ?_⟩
  rw [obs_snoc k l h a ha] at hf
  rcases List.mem_append.1 hf with e | e
  · exact List.mem_cons_of_mem _ (c4 f e)
  · simp at e
    obtain ⟨_, _, e3⟩ := e
    rw [e3, hm]
    exact List.mem_cons_self

set_option maxRecDepth 100000 in
set_option maxHeartbeats 20000000 in
theorem firm_any (n : Int) (v : Value) (l : List LAskT) (w : World) (hn1 : -9223372036854775808 ≤ n) (hn2 : n ≤ 9223372036854775807) (h : SliceOf RLAsk 6 w (fun k => k < w.heap.size) v l) : Calls Try.prog 3 #[.int .i64 n, v] w (SameEnd w) := by
  have H := Lib.hid h
  obtain ⟨A, cap, rfl, hc0, hcm, _⟩ := h
  have hmax : l.length ≤ 9223372036854775807 := by unfold maxLen at hcm; omega
  obtain ⟨r, hr3, hrm⟩ := pick_odd n
  obtain ⟨k, hk, hkc⟩ := odd_cell w r hr3
  have hkr : isRight k = true := by rcases hk with rfl | rfl | rfl <;> rfl
  have hk1 : 1 ≤ k := by omega
  have hk5 : k ≤ 5 := by omega
  have hr0 : (0 : Int) ≤ r := by omega
  have hr3' : (r : Int) < 3 := by omega
  have Hkr := Lib.hid hkr
  have Hk := Lib.hid hk
  obtain ⟨W1, hW1⟩ : ∃ W1, W1 = w.alloc (.cells #[.int .i64 1, .int .i64 3, .int .i64 5] 3) := ⟨_, rfl⟩
  have b1 : Below w.heap.size w W1 := by rw [hW1]; exact (Below.refl _ _).alloc (Nat.le_refl _) _
  rw [← hW1] at hkc
  have L0 := Lib.hid (LearnF.new W1 k)
  have HW1 := Lib.hid hW1
  have B1 := Lib.hid b1
  have Hrm := Lib.hid hrm
  clear hc0 hcm hk hkr hW1 b1 hrm
  go_enter Try.func3, Try.ntmps3
  go_wp2_with fail
  rw [← HW1.out]
  refine (within_any n 0 1048576 _ hn1 hn2 (by omega) (by omega) (by omega)).mono ?_
  rintro e w' ⟨rfl, rfl⟩
  have hrm := Hrm.out
  generalize within n 0 1048576 = rw at *
  go_wp2_with fail
  refine (new_ok k W1 Hkr.out).mono ?_
  rintro e w1 ⟨rfl, hw1⟩
  rw [hw1] at L0
  go_wp2_with fail
  obtain ⟨D, hD⟩ : ∃ D, W1.heap.size = D := ⟨_, rfl⟩
  obtain ⟨TW, hTW⟩ : ∃ TW, w1.heap.size = TW := ⟨_, rfl⟩
  obtain ⟨TD, hTD⟩ : ∃ TD, TW + 1 = TD := ⟨_, rfl⟩
  rw [hD] at L0
  rw [hD, hTW, hTD]
  obtain ⟨w2, hw2⟩ : ∃ w2, w2 = (w1.alloc (.cells #[.string ⟨#[]⟩, .string ⟨#[]⟩, .string ⟨#[]⟩, .string ⟨#[]⟩, .string ⟨#[]⟩, .string ⟨#[]⟩, .string ⟨#[]⟩, .string ⟨#[]⟩] 27)).alloc (.cells #[.bool false, .bool false, .bool false, .bool false, .bool false, .bool false, .bool false, .bool false] 28) := ⟨_, rfl⟩
  rw [← hw2]
  have hb2 : Below w1.heap.size w1 w2 := by rw [hw2]; exact ((Below.refl _ _).alloc (Nat.le_refl _) _).alloc (by simp) _
  have L1 := L0.out.more (F' := fun g => g = TW ∨ g = TD) hb2 (fun g hg => .inr (by rw [hw2]; simp; omega))
  have was0 : WasAt w2 TW TD [] [] := by
    rw [hw2, ← hTD, ← hTW]
    refine WasAt.new ((Blk.new w1 _ _).alloc _) ?_
    have := Blk.new (w1.alloc (.cells #[.string ⟨#[]⟩, .string ⟨#[]⟩, .string ⟨#[]⟩, .string ⟨#[]⟩, .string ⟨#[]⟩, .string ⟨#[]⟩, .string ⟨#[]⟩, .string ⟨#[]⟩] 27)) 28 #[.bool false, .bool false, .bool false, .bool false, .bool false, .bool false, .bool false, .bool false]
    rwa [World.size_alloc] at this
  have hsTW : W1.heap.size ≤ TW := by rw [← hTW]; exact L0.out.sub.size
  have hsTD : W1.heap.size ≤ TD := by omega
  have hne : TW ≠ TD := by omega
  have hne' : TD ≠ TW := by omega
  have L1 := Lib.hid L1
  have Was0 := Lib.hid was0
  clear hb2 was0 hw2 hw1 L0 hkc hD hTW hTD
  go_loopw [9] (fun i wr => ∃ i' : Nat, i' ≤ l.length ∧ i' ≤ 60 ∧ i = .int .i64 i' ∧ FirmRel W1 D TW TD k l i' wr) (fun i _ => 60 - (intOf i).toNat)
  case atStart => exact ⟨0, Nat.zero_le _, by omega, rfl, [], [], L1.out, by simpa [obsOf] using FirmInv.nil _, Was0.out, Nat.le_refl _, Nat.le_refl _, by simp, by simp⟩
  case round =>
    obtain ⟨i, hi, hi60, rfl, hrel⟩ := hrel
    have Hrel := Lib.hid hrel
    clear hrel
    by_cases hlt : i < l.length ∧ i < 60
    · obtain ⟨hlt, hlt6⟩ := hlt
      have g1 : (i : Int) < l.length := by omega
      have g2 : (i : Int) < 60 := by omega
      have g3 : (0 : Int) ≤ i := by omega
      obtain ⟨ts, ds, hL, hI, hW, hn1, hn2, hn3, hn4⟩ := Hrel.out
      have hbb := B1.out.trans (hL.sub.mono B1.out.size)
      obtain ⟨a, ha⟩ : ∃ a, l[i]? = some a := ⟨l[i], List.getElem?_eq_getElem (by omega)⟩
      have hsl := SliceOf.below (S' := fun k => k < w.heap.size) RLAsk.kept H.out hbb (fun k h => h) (fun _ h => h)
      obtain ⟨bl, ol, rfl, hbl, _, c1, c2, c3, _, _, _, i1, i2, i3, _⟩ := ask_at hsl ha
      have hobs := obs_snoc k l i a ha
      obtain ⟨akind, aslot, aballot, afrm, av, araw⟩ := a
      simp only at c1 c2 c3 i1 i2 i3 hobs
      obtain ⟨i11, i12⟩ := i1
      obtain ⟨i21, i22⟩ := i2
      obtain ⟨i31, i32⟩ := i3
      have hq2 : ∀ W, Calls Try.prog 7 #[.int .i64 aballot, .int .i64 0, .int .i64 4] W fun e w' => e = .returned (.int .i64 (within aballot 0 4)) ∧ w' = W := fun W => (within_any aballot 0 4 W i21 i22 (by omega) (by omega) (by omega)).mono (fun e w' ⟨h1, h2⟩ => ⟨h1, h2.symm⟩)
      have hq3 : ∀ W, Calls Try.prog 7 #[.int .i64 afrm, .int .i64 0, .int .i64 (k - 1)] W fun e w' => e = .returned (.int .i64 (within afrm 0 (k - 1))) ∧ w' = W := fun W => (within_any afrm 0 (k - 1) W i31 i32 (by omega) (by omega) (by omega)).mono (fun e w' ⟨h1, h2⟩ => ⟨h1, h2.symm⟩)
      have bd2 := within_bd aballot 0 4 (by omega)
      have bd3 := within_bd afrm 0 (k - 1) (by omega)
      have hb1 := within_any aslot 0 7 wr i11 i12 (by omega) (by omega) (by omega)
      have bd1 := within_bd aslot 0 7 (by omega)
      generalize within aslot 0 7 = s at *
      generalize within aballot 0 4 = b at *
      generalize within afrm 0 (k - 1) = f at *
      obtain ⟨b11, b12⟩ := bd1
      obtain ⟨b21, b22⟩ := bd2
      obtain ⟨b31, b32⟩ := bd3
      have hwk : IntKind.i64.wrap (k - 1) = k - 1 := by rw [IntKind.wrap_i64]; omega
      have hwb : IntKind.u8.wrap b = b := by rw [IntKind.wrap_u8]; omega
      have Hq2 := Lib.hid hq2
      have Hq3 := Lib.hid hq3
      have Hb1 := Lib.hid hb1
      have HL := Lib.hid hL
      have HI := Lib.hid hI
      have HW := Lib.hid hW
      have Hn3 := Lib.hid hn3
      have Hn4 := Lib.hid hn4
      have Hobs := Lib.hid hobs
      have Hsl := Lib.hid hsl
      have Hbb := Lib.hid hbb
      have Hin : Hid (InReach k 0 s b f) := Lib.hid (by unfold InReach; omega)
      have Hn3' : Hid (∀ t ∈ ts, t.src.length ≤ 1000000) := Lib.hid (fun t ht => by have := hn3 t ht; omega)
      have hblr : bl < wr.heap.size := by have := Hbb.out.size; omega
      have aI := (World.cell?_alloc_lt wr (.cells #[.int .u8 b] 5) ⟨bl, ol + i * 6 + 2, none⟩ hblr).trans c2
      have aJ := (World.cell?_alloc_lt wr (.cells #[.int .u8 b] 5) ⟨bl, ol + i * 6 + 3, none⟩ hblr).trans c3
      have hlit := bytes_lit wr #[.int .u8 b] [UInt8.ofNat b.toNat] (0, 0) (by simp [byteV]; omega) (by simp)
      have Hlit := Lib.hid hlit
      clear hq2 hq3 hb1 hL hI hW hn3 hn4 hobs hsl hbb hlit i11 i12 i21 i22 i31 i32 ha
      go_wp2_with fail
      refine Hb1.out.mono ?_
      rintro e w' ⟨rfl, rfl⟩
      go_wp2_with fail
      go_region_held3 (fun W => W.cell? ⟨bl, ol + i * 6 + 2, none⟩ = some (.int .i64 aballot) ∧ W.cell? ⟨bl, ol + i * 6 + 3, none⟩ = some (.int .i64 afrm)) (first | exact ⟨c2, c3⟩ | exact ⟨aI, aJ⟩ | exact ⟨qI, qJ⟩ | go_keep) ((first
        | (go_at_call 7; with_reducible refine (Hq2.out _).mono ?_; rintro e w' ⟨rfl, rfl⟩)
        | (go_at_call 7; with_reducible refine (Hq3.out _).mono ?_; rintro e w' ⟨rfl, rfl⟩)
        | (go_at_call 9; refine (take_f s b f _ [UInt8.ofNat b.toNat] (fun g => g = wr.heap.size) HL.out (by first | exact ((Below.refl _ wr).alloc (Nat.le_refl _) _) | exact (((Below.refl _ wr).drew).alloc (Nat.le_refl _) _)) Hkr.out (by omega) (by omega) Hin.out (by omega) (by omega) Hn3'.out (by simp) (by first | exact Hlit.out | exact SliceOf.heap RByte.kept Hlit.out rfl) (fun g hg => by subst hg; simp)).mono ?_; rintro e w2 ⟨T, hT, rfl, hL2, hF2⟩; have hbb2 := B1.out.trans (hL2.sub.mono B1.out.size); have qI := (hbb2.cell (p := ⟨bl, ol + i * 6 + 2, none⟩) hbl).trans ((Hbb.out.cell (p := ⟨bl, ol + i * 6 + 2, none⟩) hbl).symm.trans c2); have qJ := (hbb2.cell (p := ⟨bl, ol + i * 6 + 3, none⟩) hbl).trans ((Hbb.out.cell (p := ⟨bl, ol + i * 6 + 3, none⟩) hbl).symm.trans c3); have HT := Lib.hid hT; have HL2 := Lib.hid hL2; have HF2 := Lib.hid hF2; clear hT hL2 hF2 hbb2)))
      rename_i hHeld
      clear hHeld
      have hfs := firm_step (s := s) (f := f) HI.out HT.out b21 b22
      have htl := took_len (n := k) (s := s) (b := b) (f := f) (T := T) (v := [UInt8.ofNat b.toNat]) hn1 hn2 Hn3.out Hn4.out (by simp)
      have hX : ∀ g, g = TW ∨ g = TD → w2.heap[g]? = wr.heap[g]? := fun g hg => (HF2.out g hg).trans (by
        have hgl : g < wr.heap.size := by
          obtain ⟨ws, bs, q1, q2, _⟩ := HW.out
          rcases hg with rfl | rfl
          · exact q1.lt
          · exact q2.lt
        exact Below.heap_alloc _ _ g hgl)
      obtain ⟨hI2, hkeep⟩ := hfs
      rw [← Hobs.out] at hI2
      have hL2 := HL2.out
      have was2 := HW.out.keep hX hkeep
      generalize (Took k ts ds s b f [UInt8.ofNat b.toNat] T).1 = tb at *
      generalize (Took k ts ds s b f [UInt8.ofNat b.toNat] T).2.1 = ts2 at *
      generalize (Took k ts ds s b f [UInt8.ofNat b.toNat] T).2.2 = ds2 at *
      obtain ⟨m1, m2, m3, m4⟩ := htl
      have HI2 := Lib.hid hI2
      have M3 := Lib.hid m3
      have M4 := Lib.hid m4
      have hL2 := Lib.hid hL2
      have Was2 := Lib.hid was2
      clear hI2 hkeep m3 m4 was2 hX HT HL2 HF2 HI HW HL Hobs Hin Hn3 Hn3' Hn4 Hlit aI aJ qI qJ c1 c2 c3 Hq2 Hq3 hwk hwb Hrel Hb1
      go_wp2_with fail
      go_loopw [11] (fun j wx => ∃ j' : Nat, j' ≤ 8 ∧ j = .int .i64 j' ∧ LearnF (fun g => g = TW ∨ g = TD) W1 D k 0 ts2 ds2 wx ∧ WasAt wx TW TD ts2 ds2) (fun j _ => 8 - (intOf j).toNat)
      case atStart => exact ⟨0, by omega, rfl, hL2.out, Was2.out⟩
      case round =>
        obtain ⟨j, hj, rfl, hLx, hWx⟩ := hrel
        by_cases hj8 : j < 8
        · have j1 : (j : Int) < 8 := by omega
          have j0 : (0 : Int) ≤ j := by omega
          obtain ⟨d, u, cd, cw, hd, frd, frw⟩ := hWx.at j hj8
          have HLx := Lib.hid hLx
          have HWx := Lib.hid hWx
          have Hd := Lib.hid hd
          clear hLx hWx hd
          go_wp2_with fail
          refine (decided_f (j : Int) HLx.out (by omega) M4.out).mono ?_
          intro e w3 h3
          cases hval : valueOf ts2 ds2 j with
          | none =>
            rw [hval] at h3
            obtain ⟨rfl, rfl⟩ := h3
            have hdf : d = false := by
              cases d with
              | false => rfl
              | true => have := Hd.out rfl; rw [hval] at this; cases this
            subst hdf
            have knil := conv_nil
            have Hp := Lib.hid (fun q => put_all (HLx.out.drewN q) (HWx.out.drewN q) hsTW hsTD j false [] (fun e => by cases e))
            clear hval Hd
            go_wp2_with fail
            go_quiet (fail)
            go_wp2_with fail
            go_roundw
            case rel => exact ⟨j + 1, by omega, by go_num, (Hp.out _).1, (Hp.out _).2⟩
            case measure => simp [intOf]; omega
          | some y =>
            rw [hval] at h3
            obtain ⟨A1, e1, rfl, ho, hb3⟩ := h3
            have hx := Owns.slice (S' := fun g => g < w3.heap.size) RByte.kept (owns_bytes (S := fun _ => False) ho) (fun _ g => g.elim) (fun _ e => (ho.lt _ e).2)
            have hz3 := hb3.size
            have kx : ∀ q, (convert 32 9 (.slice A1 y.length e1)).run Try.prog (w3.drewN q) = .ok (.string ⟨List.toArray y⟩) (w3.drewN q) := fun q => conv_bytes hx Try.underlying32 Try.underlying5 Try.underlying9 (fun _ _ => rfl)
            have hL3 := HLx.out.below hb3
            have hW3 := HWx.out.below hb3
            obtain ⟨d', u', cd3, cw3, hd3, frd3, frw3⟩ := hW3.at j hj8
            clear cd cw frd frw Hd HLx HWx u d
            cases d' with
            | true =>
              have hu : u' = y := by have := hd3 rfl; rw [hval] at this; injection this with this; exact this.symm
              subst hu
              have Hp := Lib.hid (fun q => put_all (hL3.drewN q) (hW3.drewN q) hsTW hsTD j true u' (fun _ => hval))
              clear hval hd3 hL3 hW3 hx ho hb3 hz3
              have kx0 := kx 0
              go_wp2_with fail
              go_quiet (fail)
              go_wp2_with fail
              go_roundw
              case rel => exact ⟨j + 1, by omega, by go_num, (Hp.out _).1, (Hp.out _).2⟩
              case measure => simp [intOf]; omega
            | false =>
              go_wp2_with fail
              go_quiet (fail)
              obtain ⟨w4, hw4⟩ : ∃ w4, w4 = w3.drewN nq := ⟨_, rfl⟩
              rw [← hw4]
              have hL4 : LearnF (fun g => g = TW ∨ g = TD) W1 D k 0 ts2 ds2 w4 := by rw [hw4]; exact hL3.drewN nq
              have hW4 : WasAt w4 TW TD ts2 ds2 := by rw [hw4]; exact hW3.drewN nq
              have hx4 : BytesAt w4 (fun g => g < w4.heap.size) (.slice A1 y.length e1) y := by rw [hw4]; exact SliceOf.heap RByte.kept hx rfl
              have cd4 : w4.cell? ⟨TD, j, none⟩ = some (.bool false) := by rw [hw4]; exact cd3
              clear cw3 hd3 frd3 frw3 hL3 hW3 hx kx cd3 hb3 ho hz3 hw4
              have hB4 := Blk.new w4 35 #[.bool false, .bool false, .bool false, .bool false, .bool false]
              have HL4 := Lib.hid hL4
              have HW4 := Lib.hid hW4
              have Hx4 := Lib.hid hx4
              have HB4 := Lib.hid hB4
              clear hL4 hW4 hx4 hB4
              obtain ⟨b0, hb0, hb04, hy, hcount⟩ := firm_count HI2.out hval
              have hy1 : y.length = 1 := by rw [hy]; rfl
              obtain ⟨yb, yo, rfl, hyb, cy⟩ := one_byte Hx4.out hy hb0 hb04
              have Hcount := Lib.hid hcount
              have e2 : ((y.length : Int) == 1) = true := by rw [hy1]; rfl
              have y0 : (0 : Int) < y.length := by omega
              have HbS : Hid (Below w.heap.size w (w4.alloc (.cells #[.bool false, .bool false, .bool false, .bool false, .bool false] 35))) := Lib.hid ((B1.out.trans (HL4.out.sub.mono B1.out.size)).trans (((Below.refl _ _).alloc (Nat.le_refl _) _).mono (by have h1 := B1.out.size; have h2 := HL4.out.sub.size; omega)))
              clear hy hcount hy1
              go_wp2_with fail
              go_loopw [15, 16] (fun c h wx => ∃ (h' : Nat) (S : List Int), h' ≤ i + 1 ∧ h = .int .i64 h' ∧ c = .int .i64 S.length ∧ CountAt (w4.alloc (.cells #[.bool false, .bool false, .bool false, .bool false, .bool false] 35)) w4.heap.size k l j b0 h' S wx) (fun _ h _ => i + 1 - (intOf h).toNat)
              case atStart => exact ⟨0, [], by omega, rfl, rfl, Touch.refl _ _, SeenAt.new HB4.out, Nat.le_refl _, fun f hf => by simp [obsOf] at hf⟩
              case round =>
                obtain ⟨q, S, hqi, rfl, rfl, hC⟩ := hrel
                have HC := Lib.hid hC
                clear hC
                by_cases hq : q ≤ i
                · have q1 : (q : Int) ≤ i := by omega
                  have q2 : (q : Int) < l.length := by omega
                  have q0 : (0 : Int) ≤ q := by omega
                  obtain ⟨a, ha⟩ : ∃ a, l[q]? = some a := ⟨l[q], List.getElem?_eq_getElem (by omega)⟩
                  have hbx : Below w.heap.size w wr := HbS.out.trans (HC.out.1.below (fun g hg => by have h1 := B1.out.size; have h2 := HL4.out.sub.size; omega) HbS.out.size)
                  have hsl := SliceOf.below (S' := fun k => k < w.heap.size) RLAsk.kept H.out hbx (fun k h => h) (fun _ h => h)
                  obtain ⟨bl', ol', hA', _, _, c1, c2, c3, _, _, _, i1, i2, i3, _⟩ := ask_at hsl ha
                  injection hA' with hA'
                  injection hA' with e1 e3
                  subst e1 e3
                  have hps := HC.out.pass a ha
                  have hct := HC.out.count a ha
                  obtain ⟨akind, bslot, bballot, bfrm, av, araw⟩ := a
                  simp only at c1 c2 c3 i1 i2 i3 hps hct
                  obtain ⟨i11, i12⟩ := i1
                  obtain ⟨i21, i22⟩ := i2
                  obtain ⟨i31, i32⟩ := i3
                  have hq1 : ∀ W, Calls Try.prog 7 #[.int .i64 bslot, .int .i64 0, .int .i64 7] W fun e w' => e = .returned (.int .i64 (within bslot 0 7)) ∧ w' = W := fun W => (within_any bslot 0 7 W i11 i12 (by omega) (by omega) (by omega)).mono (fun e w' ⟨h1, h2⟩ => ⟨h1, h2.symm⟩)
                  have hq2 : ∀ W, Calls Try.prog 7 #[.int .i64 bballot, .int .i64 0, .int .i64 4] W fun e w' => e = .returned (.int .i64 (within bballot 0 4)) ∧ w' = W := fun W => (within_any bballot 0 4 W i21 i22 (by omega) (by omega) (by omega)).mono (fun e w' ⟨h1, h2⟩ => ⟨h1, h2.symm⟩)
                  have hq3 : ∀ W, Calls Try.prog 7 #[.int .i64 bfrm, .int .i64 0, .int .i64 (k - 1)] W fun e w' => e = .returned (.int .i64 (within bfrm 0 (k - 1))) ∧ w' = W := fun W => (within_any bfrm 0 (k - 1) W i31 i32 (by omega) (by omega) (by omega)).mono (fun e w' ⟨h1, h2⟩ => ⟨h1, h2.symm⟩)
                  have bd3 := within_bd bfrm 0 (k - 1) (by omega)
                  generalize within bslot 0 7 = bs at *
                  generalize within bballot 0 4 = bb at *
                  generalize within bfrm 0 (k - 1) = bf at *
                  obtain ⟨m, rfl⟩ := Int.eq_ofNat_of_zero_le bd3.1
                  have hm5 : m < 5 := by omega
                  have m0 : (0 : Int) ≤ m := by omega
                  have m5 : (m : Int) < 5 := by omega
                  have hwk : IntKind.i64.wrap (k - 1) = k - 1 := by rw [IntKind.wrap_i64]; omega
                  obtain ⟨cf, cff⟩ := HC.out.2.1.at m hm5
                  have cyx : wr.cell? ⟨yb, yo, none⟩ = some (.int .u8 b0) := (HC.out.1.cell (p := ⟨yb, yo, none⟩) (by simp; omega) (by show ¬ yb = w4.heap.size; omega)).trans ((World.cell?_alloc_lt w4 _ ⟨yb, yo, none⟩ hyb).trans cy)
                  have hS6 : (S.length : Int) ≤ 61 := by have := HC.out.2.2.1; omega
                  have hqw : ∀ (x hi y : Int), (x = bslot ∧ hi = 7 ∧ y = bs) ∨ (x = bballot ∧ hi = 4 ∧ y = bb) → ∀ W, Calls Try.prog 7 #[.int .i64 x, .int .i64 0, .int .i64 hi] W fun e w' => e = .returned (.int .i64 y) ∧ w' = W := by
                    rintro x hi y (⟨rfl, rfl, rfl⟩ | ⟨rfl, rfl, rfl⟩)
                    · exact hq1
                    · exact hq2
                  have Hqw := Lib.hid hqw
                  have Hq3 := Lib.hid hq3
                  have Hps := Lib.hid hps
                  have Hct := Lib.hid hct
                  clear hqw hq1 hq2 hq3 hps hct hbx hsl ha i11 i12 i21 i22 i31 i32 bd3
                  by_cases p1 : bs = j
                  · have f1 : (bs == (j : Int)) = true := by rw [p1]; simp
                    by_cases p2 : bb = b0
                    · have f2 : (bb == b0) = true := by rw [p2]; simp
                      by_cases p3 : (m : Int) ∈ S
                      · rw [decide_eq_true p3] at cf
                        have Hps2 := Lib.hid (Hps.out (fun _ _ => p3))
                        clear p1 p2 p3
                        go_wp2_with fail
                        refine (Hq3.out _).mono ?_
                        rintro e w' ⟨rfl, rfl⟩
                        go_wp2_with fail
                        go_quiet (exact Calls.quiet_of_same (Hqw.out _ _ _ (by first | exact .inl ⟨rfl, rfl, rfl⟩ | exact .inr ⟨rfl, rfl, rfl⟩) _))
                        go_wp2_with fail
                        go_roundw
                        case rel => exact ⟨q + 1, S, by omega, by go_num, rfl, Hps2.out _⟩
                        case measure => simp [intOf]; omega
                      · rw [decide_eq_false p3] at cf
                        have Hct2 := Lib.hid (Hct.out m rfl hm5 p3)
                        clear p1 p2 p3
                        go_wp2_with fail
                        refine (Hq3.out _).mono ?_
                        rintro e w' ⟨rfl, rfl⟩
                        go_wp2_with fail
                        go_quiet (exact Calls.quiet_of_same (Hqw.out _ _ _ (by first | exact .inl ⟨rfl, rfl, rfl⟩ | exact .inr ⟨rfl, rfl, rfl⟩) _))
                        go_wp2_with fail
                        go_roundw
                        case rel => exact ⟨q + 1, (m : Int) :: S, by omega, by go_num, by go_num, Hct2.out _⟩
                        case measure => simp [intOf]; omega
                    · have f2 : (bb == b0) = false := by simp [p2]
                      have Hps2 := Lib.hid (Hps.out (fun _ e => absurd e p2))
                      clear p1 p2
                      go_wp2_with fail
                      refine (Hq3.out _).mono ?_
                      rintro e w' ⟨rfl, rfl⟩
                      go_wp2_with fail
                      go_quiet (exact Calls.quiet_of_same (Hqw.out _ _ _ (by first | exact .inl ⟨rfl, rfl, rfl⟩ | exact .inr ⟨rfl, rfl, rfl⟩) _))
                      go_wp2_with fail
                      go_roundw
                      case rel => exact ⟨q + 1, S, by omega, by go_num, rfl, Hps2.out _⟩
                      case measure => simp [intOf]; omega
                  · have f1 : (bs == (j : Int)) = false := by simp [p1]
                    have Hps2 := Lib.hid (Hps.out (fun e _ => absurd e p1))
                    clear p1
                    go_wp2_with fail
                    refine (Hq3.out _).mono ?_
                    rintro e w' ⟨rfl, rfl⟩
                    go_wp2_with fail
                    go_quiet (exact Calls.quiet_of_same (Hqw.out _ _ _ (by first | exact .inl ⟨rfl, rfl, rfl⟩ | exact .inr ⟨rfl, rfl, rfl⟩) _))
                    go_wp2_with fail
                    go_roundw
                    case rel => exact ⟨q + 1, S, by omega, by go_num, rfl, Hps2.out _⟩
                    case measure => simp [intOf]; omega
                · have hqe : q = i + 1 := by omega
                  have q1 : ¬ (q : Int) ≤ i := by omega
                  have hcn := Hcount.out S (by rw [← hqe]; exact HC.out.2.2.2)
                  have hkd : k.tdiv 2 = k / 2 := Int.tdiv_eq_ediv_of_nonneg (by omega)
                  have hS6 : (S.length : Int) ≤ 61 := by have := HC.out.2.2.1; omega
                  have e5 : decide ((S.length : Int) < k / 2 + 1) = false := decide_eq_false (by omega)
                  have hT := HC.out.1
                  have hLa := HL4.out.more (F' := fun g => (g = TW ∨ g = TD) ∨ g = w4.heap.size) ((Below.refl _ w4).alloc (Nat.le_refl _) (.cells #[.bool false, .bool false, .bool false, .bool false, .bool false] 35)) (fun g hg => hg.imp id (fun e => by subst e; simp))
                  have hL5 := (hLa.touch hT (fun g hg => ⟨.inr hg, by have := HL4.out.sub.size; omega⟩)).less (F' := fun g => g = TW ∨ g = TD) (fun g hg => .inl hg)
                  have hblk : ∀ g, g < w4.heap.size → wr.heap[g]? = w4.heap[g]? := fun g hg => (hT.block g (by simp; omega) (by omega)).trans (Below.heap_alloc _ _ g hg)
                  have hW5 := HW4.out.keep (w' := wr) (fun g hg => hblk g (by
                    obtain ⟨ws, bs, q1, q2, _⟩ := HW4.out
                    rcases hg with rfl | rfl
                    · exact q1.lt
                    · exact q2.lt)) (fun _ _ e => e)
                  have kx5 : (convert 32 9 (.slice (some ⟨yb, yo, none⟩) y.length e1)).run Try.prog wr = .ok (.string ⟨List.toArray y⟩) wr := conv_bytes Hx4.out Try.underlying32 Try.underlying5 Try.underlying9 hblk
                  obtain ⟨d5, u5, cd5, cw5, _, frd5, frw5⟩ := hW5.at j hj8
                  have Hp := Lib.hid (put_all hL5 hW5 hsTW hsTD j true y (fun _ => hval))
                  clear hcn hT hLa hL5 hblk hW5 hqe
                  go_wp2_with fail
                  go_roundw
                  case rel => exact ⟨j + 1, by omega, by go_num, Hp.out.1, Hp.out.2⟩
                  case measure => simp [intOf]; omega
        · have hj8' : j = 8 := by omega
          have j1 : ¬ (j : Int) < 8 := by omega
          have HLx := Lib.hid hLx
          have HWx := Lib.hid hWx
          clear hLx hWx
          go_wp2_with fail
          go_roundw
          case rel => exact ⟨i + 1, by omega, by omega, by go_num, ts2, ds2, HLx.out, HI2.out, HWx.out, m1, m2, M3.out, M4.out⟩
          case measure => simp [intOf]; omega
    · obtain ⟨ts, ds, hL, _⟩ := Hrel.out
      have hbb := Lib.hid (B1.out.trans (hL.sub.mono B1.out.size))
      clear hL
      by_cases hlt2 : i < l.length
      · have g1 : (i : Int) < l.length := by omega
        have g2 : ¬ (i : Int) < 60 := by omega
        go_wp2_with fail
        refine (known_any wr).mono ?_
        rintro e w' ⟨rfl, hb⟩
        go_wp2_with fail
        go_ret
        exact ⟨rfl, hbb.out.trans (hb.mono hbb.out.size)⟩
      · have g1 : ¬ (i : Int) < l.length := by omega
        go_wp2_with fail
        refine (known_any wr).mono ?_
        rintro e w' ⟨rfl, hb⟩
        go_wp2_with fail
        go_ret
        exact ⟨rfl, hbb.out.trans (hb.mono hbb.out.size)⟩
end Go.Proofs.Ytkghogfcfocmpaa
