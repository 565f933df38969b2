/- The reference's Take, of a vote within its bounds. -/
import Derived.Test.YtkghogfcfocmpaaLRTake
namespace Go.Proofs.Ytkghogfcfocmpaa
open Go.RowKit

def RTakeEnd (w : World) (base : Nat) (S : Nat → Prop) (M : Nat) (n low : Int) (L : List TakeT) (Ds : List DoneT) (s b f : Int) (v : List UInt8) (e : Ending) (w' : World) : Prop :=
  e = .returned (.bool (RTook n L Ds s b f v).1) ∧ ∃ lv' dv', RefAt w' base (fun k => S k ∨ (w.heap.size ≤ k ∧ k < w'.heap.size)) M n low (RTook n L Ds s b f v).2.1 (RTook n L Ds s b f v).2.2 lv' dv' ∧ Touch (fun k => k = M) w w'
/-- Where the two ways of a vote meet. -/
def RPut (w : World) (base : Nat) (S : Nat → Prop) (M : Nat) (n low : Int) (L : List TakeT) (Ds : List DoneT) (s b f : Int) (v : List UInt8) (nv : Value) (wx : World) : Prop :=
  nv = .int .i64 (((hits L s b).length + oneMore (mineIn L s b f) : Nat) : Int) ∧ ∃ lv' dv', RefAt wx base (fun k => S k ∨ (w.heap.size ≤ k ∧ k < wx.heap.size)) M n low (withL L s b f v) Ds lv' dv' ∧ Touch (fun k => k = M) w wx
theorem RefAt.wider {w : World} {base : Nat} {S S' : Nat → Prop} {M : Nat} {n low : Int} {L : List TakeT} {Ds : List DoneT} {lv dv : Value} (h : RefAt w base S M n low L Ds lv dv) (hS : ∀ k, S k → S' k) (hr : ∀ k, S' k → base ≤ k ∧ k < w.heap.size ∧ k ≠ M) : RefAt w base S' M n low L Ds lv dv :=
  ⟨h.blk, h.lrow.touch RTake.kept (Touch.refl (fun _ => False) w) (fun _ _ g => g) (fun k hk => ⟨(h.rng k hk).2.1, fun g => g⟩) hS, h.drow.touch RDone.kept (Touch.refl (fun _ => False) w) (fun _ _ g => g) (fun k hk => ⟨(h.rng k hk).2.1, fun g => g⟩) hS, fun k e => hS k (h.inl k e), fun k e => hS k (h.ind k e), hr⟩
/-- A list is turned to a longer one, in fresh memory. -/
theorem RefAt.putL {w w3 : World} {base : Nat} {S : Nat → Prop} {M : Nat} {n low : Int} {L L' : List TakeT} {Ds : List DoneT} {lv dv v3 : Value} (h : RefAt w base S M n low L Ds lv dv) (hbase : base ≤ w.heap.size) (hb : Below w.heap.size w w3) (ho : Owns RTake 4 64 w3 w.heap.size (fun k => S k ∨ (w.heap.size ≤ k ∧ k < w3.heap.size)) v3 L') :
    RefAt (w3.setCell ⟨M, 2, none⟩ v3) base (fun k => S k ∨ (w.heap.size ≤ k ∧ k < (w3.setCell ⟨M, 2, none⟩ v3).heap.size)) M n low L' Ds v3 dv ∧ Touch (fun k => k = M) w (w3.setCell ⟨M, 2, none⟩ v3) := by
  have hM := h.blk.lt
  have hz := hb.size
  have a2 : Touch (fun k => k = M) w3 (w3.setCell ⟨M, 2, none⟩ v3) := Touch.setCell _ _ (fun _ => rfl)
  have hT : Touch (fun k => k = M) w (w3.setCell ⟨M, 2, none⟩ v3) := (Touch.of_below hb _).trans a2 (fun _ _ e => e)
  have hzs : (w3.setCell ⟨M, 2, none⟩ v3).heap.size = w3.heap.size := by simp
  have ol := ho.lt
  refine ⟨⟨?_, ?_, ?_, ?_, ?_, ?_⟩, hT⟩
  · have := (h.blk.below hb hM).set 2 v3
    simpa using this
  · rw [hzs]
    exact (ho.touch RTake.kept a2 (fun k e e2 => by have := ol k e; omega) (fun k hk => by
      rcases hk with hk | hk
      · have := h.rng k hk; exact ⟨by omega, this.2.2⟩
      · exact ⟨hk.2, by omega⟩) (fun _ e => e)).rebase hbase
  · rw [hzs]
    exact h.drow.touch RDone.kept hT (fun k e => (h.rng k (h.ind k e)).2.2) (fun k hk => ⟨(h.rng k hk).2.1, (h.rng k hk).2.2⟩) (fun _ e => .inl e)
  · exact fun k e => .inr (by have := ol k e; omega)
  · exact fun k e => .inl (h.ind k e)
  · rintro k (hk | hk)
    · have := h.rng k hk; omega
    · omega
theorem RefAt.putD {w w3 : World} {base : Nat} {S : Nat → Prop} {M : Nat} {n low : Int} {L : List TakeT} {Ds Ds' : List DoneT} {lv dv v3 : Value} (h : RefAt w base S M n low L Ds lv dv) (hbase : base ≤ w.heap.size) (hb : Below w.heap.size w w3) (ho : Owns RDone 2 66 w3 w.heap.size (fun k => S k ∨ (w.heap.size ≤ k ∧ k < w3.heap.size)) v3 Ds') :
    RefAt (w3.setCell ⟨M, 3, none⟩ v3) base (fun k => S k ∨ (w.heap.size ≤ k ∧ k < (w3.setCell ⟨M, 3, none⟩ v3).heap.size)) M n low L Ds' lv v3 ∧ Touch (fun k => k = M) w (w3.setCell ⟨M, 3, none⟩ v3) := by
  have hM := h.blk.lt
  have hz := hb.size
  have a2 : Touch (fun k => k = M) w3 (w3.setCell ⟨M, 3, none⟩ v3) := Touch.setCell _ _ (fun _ => rfl)
  have hT : Touch (fun k => k = M) w (w3.setCell ⟨M, 3, none⟩ v3) := (Touch.of_below hb _).trans a2 (fun _ _ e => e)
  have hzs : (w3.setCell ⟨M, 3, none⟩ v3).heap.size = w3.heap.size := by simp
  have ol := ho.lt
  refine ⟨⟨?_, ?_, ?_, ?_, ?_, ?_⟩, hT⟩
  · have := (h.blk.below hb hM).set 3 v3
    simpa using this
  · rw [hzs]
    exact h.lrow.touch RTake.kept hT (fun k e => (h.rng k (h.inl k e)).2.2) (fun k hk => ⟨(h.rng k hk).2.1, (h.rng k hk).2.2⟩) (fun _ e => .inl e)
  · rw [hzs]
    exact (ho.touch RDone.kept a2 (fun k e e2 => by have := ol k e; omega) (fun k hk => by
      rcases hk with hk | hk
      · have := h.rng k hk; exact ⟨by omega, this.2.2⟩
      · exact ⟨hk.2, by omega⟩) (fun _ e => e)).rebase hbase
  · exact fun k e => .inl (h.inl k e)
  · exact fun k e => .inr (by have := ol k e; omega)
  · rintro k (hk | hk)
    · have := h.rng k hk; omega
    · omega
theorem rtake_bad {w : World} {base : Nat} {S : Nat → Prop} {M : Nat} {n low : Int} {L : List TakeT} {Ds : List DoneT} {lv dv : Value} {s b f : Int} {v : List UInt8} (h : RefAt w base S M n low L Ds lv dv) (hb : badIn L s b v = true) (q : Nat) : RTakeEnd w base S M n low L Ds s b f v (.returned (.bool false)) (w.drewN q) := by
  have ht : RTook n L Ds s b f v = (false, L, Ds) := by unfold RTook; rw [if_pos hb]
  unfold RTakeEnd
  rw [ht]
  have hq := h.touch (w' := w.drewN q) (Touch.drewN (fun _ => False) w q) (fun g => g) (fun _ _ g => g)
  exact ⟨rfl, lv, dv, hq.wider (fun k hk => .inl hk) (fun k hk => by
    rcases hk with hk | hk
    · exact hq.rng k hk
    · have hz : (w.drewN q).heap.size = w.heap.size := rfl
      omega), Touch.drewN _ w q⟩
set_option maxRecDepth 100000 in
set_option maxHeartbeats 8000000 in
theorem rtake_in {w : World} {base : Nat} {S : Nat → Prop} {M : Nat} {n low : Int} {L : List TakeT} {Ds : List DoneT} {lv dv : Value} (s b f : Int) (vv : Value) (v : List UInt8) (Sv : Nat → Prop) (h : RefAt w base S M n low L Ds lv dv) (hbase : base ≤ w.heap.size) (hn : 0 ≤ n) (hn5 : n ≤ 5) (hlow : 0 ≤ low) (hlow2 : low ≤ 1073741824) (hin : InReach n low s b f)
    (hl : L.length ≤ 1000000) (hdl : Ds.length ≤ 1000000) (hvl : v.length ≤ 1000000000) (hv : BytesAt w Sv vv v) (hS : ∀ k, Sv k → k < w.heap.size ∧ k ≠ M) :
    Calls Try.prog 25 #[.pointer (some ⟨M, 0, none⟩), .int .i64 s, .int .i64 b, .int .i64 f, vv] w (RTakeEnd w base S M n low L Ds s b f v) := by
  obtain ⟨A, c, rfl⟩ := h.lrow.shape
  obtain ⟨Av, cv, rfl⟩ := slice_shape hv
  have k0 : w.cell? ⟨M, 0, none⟩ = some (.int .i64 n) := h.blk.cell 0
  have k1 : w.cell? ⟨M, 1, none⟩ = some (.int .i64 low) := h.blk.cell 1
  have k2 : w.cell? ⟨M, 2, none⟩ = some (.slice A L.length c) := h.blk.cell 2
  obtain ⟨i1, i2, i3, i4, i5, i6⟩ := hin
  have d1 : decide (s < low) = false := decide_eq_false (by omega)
  have d2 : decide (low + 32 ≤ s) = false := decide_eq_false (by omega)
  have d3 : decide (b < 0) = false := decide_eq_false (by omega)
  have d4 : decide (1073741824 < b) = false := decide_eq_false (by omega)
  have d5 : decide (f < 0) = false := decide_eq_false (by omega)
  have d6 : decide (n ≤ f) = false := decide_eq_false (by omega)
  have H := Lib.hid h
  have Hv := Lib.hid hv
  have HS := Lib.hid hS
  have ky : ∀ q, (convert 32 9 (.slice Av v.length cv)).run Try.prog (w.drewN q) = .ok (.string ⟨v.toArray⟩) (w.drewN q) := fun q => conv_bytes hv Try.underlying32 Try.underlying5 Try.underlying9 (fun _ _ => rfl)
  clear h hv hS
  go_enter Try.func25, Try.ntmps25
  go_wp2_with fail
  clear d1 d2 d3 d4 d5 d6 k1
  go_loopw [11, 12, 13] (fun nv mv i wr => ∃ k q : Nat, k ≤ L.length ∧ i = .int .i64 k ∧ RCount L s b f v k nv mv ∧ wr = w.drewN q) (fun _ _ i _ => L.length - (intOf i).toNat)
  case atStart => exact ⟨0, 0, Nat.zero_le _, rfl, ⟨rfl, rfl, rfl⟩, rfl⟩
  case round =>
    obtain ⟨k, q, hk, rfl, hC, rfl⟩ := hrel
    obtain ⟨N, hN⟩ : ∃ N, (hits (L.take k) s b).length = N := ⟨_, rfl⟩
    obtain ⟨m, hm⟩ : ∃ m, mineIn (L.take k) s b f = m := ⟨_, rfl⟩
    obtain ⟨rfl, rfl⟩ : u11 = .int .i64 N ∧ u12 = .bool m := ⟨by rw [← hN]; exact hC.1, by rw [← hm]; exact hC.2.1⟩
    have hNk : N ≤ k := by rw [← hN]; have := hits_le (L.take k) s b; rw [List.length_take] at this; omega
    have hNk2 : (N : Int) ≤ 1000000 := by omega
    have HC := Lib.hid hC
    by_cases hlt : k < L.length
    · clear hN hm hC
      obtain ⟨x, hx⟩ : ∃ x, L[k]? = some x := ⟨L[k], List.getElem?_eq_getElem hlt⟩
      obtain ⟨g, cs, rfl, ⟨xv, rfl, hxv⟩, _, hc⟩ := Owns.at H.out.lrow hx
      have hc0 : w.cell? ⟨g, k * 4, none⟩ = some (.int .i64 x.slot) := hc 0 _ rfl
      have hc1 : w.cell? ⟨g, k * 4 + 1, none⟩ = some (.int .i64 x.b) := hc 1 _ rfl
      have hc2 : w.cell? ⟨g, k * 4 + 2, none⟩ = some (.int .i64 x.frm) := hc 2 _ rfl
      have hc3 : w.cell? ⟨g, k * 4 + 3, none⟩ = some xv := hc 3 _ rfl
      have kx : ∀ q, (convert 32 9 xv).run Try.prog (w.drewN q) = .ok (.string ⟨x.v.toArray⟩) (w.drewN q) := fun q => conv_bytes hxv Try.underlying32 Try.underlying5 Try.underlying9 (fun _ _ => rfl)
      have g1 : (k : Int) < L.length := by omega
      have g2 : (0 : Int) ≤ k := by omega
      have Hx := Lib.hid hx
      clear hc hx hxv
      by_cases p1 : x.slot = s
      · have e1 : (x.slot == s) = true := by rw [beq_iff_eq]; exact p1
        by_cases p2 : x.b = b
        · have e2 : (x.b == b) = true := by rw [beq_iff_eq]; exact p2
          by_cases p3 : x.v = v
          · have e3 : (x.v == v) = true := by rw [beq_iff_eq]; exact p3
            have Hhit := Lib.hid (HC.out.hit Hx.out ⟨p1, p2⟩ p3)
            clear p1 p2 p3
            cases m with
            | true =>
              go_wp2_with fail
              go_quiet (fail)
              go_wp2_with fail
              go_roundw
              case rel => exact ⟨k + 1, _, by omega, by go_num, Hhit.out, rfl⟩
              case measure => simp [intOf]; omega
            | false =>
              by_cases p4 : x.frm = f
              · have e4 : (x.frm == f) = true := by rw [beq_iff_eq]; exact p4
                rw [decide_eq_true p4] at Hhit
                clear p4
                go_wp2_with fail
                go_quiet (fail)
                go_wp2_with fail
                go_roundw
                case rel => exact ⟨k + 1, _, by omega, by go_num, Hhit.out, rfl⟩
                case measure => simp [intOf]; omega
              · have e4 : (x.frm == f) = false := by rw [beq_eq_false_iff_ne]; exact p4
                rw [decide_eq_false p4] at Hhit
                clear p4
                go_wp2_with fail
                go_quiet (fail)
                go_wp2_with fail
                go_roundw
                case rel => exact ⟨k + 1, _, by omega, by go_num, Hhit.out, rfl⟩
                case measure => simp [intOf]; omega
          · have e3 : (x.v == v) = false := by rw [beq_eq_false_iff_ne]; exact p3
            have Hbad := Lib.hid (RCount.bad Hx.out ⟨p1, p2⟩ p3)
            clear p1 p2 p3
            go_wp2_with fail
            go_quiet (fail)
            go_wp2_with fail
            go_ret
            have hb := rtake_bad (f := f) H.out Hbad.out (q + nq)
            rw [← World.drewN_drewN] at hb
            exact hb
        · have e2 : (x.b == b) = false := by rw [beq_eq_false_iff_ne]; exact p2
          have Hskip := Lib.hid (HC.out.skip Hx.out (fun e => p2 e.2))
          clear p1 p2
          go_wp2_with fail
          go_roundw
          case rel => exact ⟨k + 1, q, by omega, by go_num, Hskip.out, rfl⟩
          case measure => simp [intOf]; omega
      · have e1 : (x.slot == s) = false := by rw [beq_eq_false_iff_ne]; exact p1
        have Hskip := Lib.hid (HC.out.skip Hx.out (fun e => p1 e.1))
        clear p1
        go_wp2_with fail
        go_roundw
        case rel => exact ⟨k + 1, q, by omega, by go_num, Hskip.out, rfl⟩
        case measure => simp [intOf]; omega
    · have hfull : L.take k = L := List.take_of_length_le (by omega)
      rw [hfull] at hN hm
      have hbad : badIn L s b v = false := by have := hC.2.2; rwa [hfull] at this
      have q1 : ¬ (k : Int) < L.length := by omega
      obtain ⟨WQ, hWQ⟩ : ∃ WQ, WQ = w.drewN q := ⟨_, rfl⟩
      rw [← hWQ]
      have hQ : RefAt WQ base S M n low L Ds (.slice A L.length c) dv := H.out.touch (by rw [hWQ]; exact Touch.drewN (fun _ => False) w q) (fun g => g) (fun _ _ g => g)
      have hTQ : Touch (fun k => k = M) w WQ := by rw [hWQ]; exact Touch.drewN _ w q
      have hzQ : WQ.heap.size = w.heap.size := by rw [hWQ]; rfl
      have kQ2 := hQ.blk.cell 2
      simp only [List.getElem?_toArray, List.getElem?_cons_succ, List.getElem?_cons_zero] at kQ2
      have HQ := Lib.hid hQ
      have HTQ := Lib.hid hTQ
      have HzQ := Lib.hid hzQ
      have HN := Lib.hid hN
      have Hm := Lib.hid hm
      have Hbad := Lib.hid hbad
      clear hC HC hfull hbad hWQ hQ hTQ hzQ hN hm ky k2
      go_upto_if 110 with fail
      go_cut [11] from 109 (fun nv wx => RPut w base S M n low L Ds s b f v nv wx)
      case first =>
        cases m with
        | true =>
          go_wp2_with fail
          go_meet
          refine ⟨?_, (.slice A L.length c), dv, ?_, HTQ.out⟩
          · rw [HN.out, Hm.out]; rfl
          · have : withL L s b f v = L := by unfold withL; rw [if_pos Hm.out]
            rw [this]
            exact HQ.out.wider (fun k hk => .inl hk) (fun k hk => by
              rcases hk with hk | hk
              · exact HQ.out.rng k hk
              · have := HzQ.out; omega)
        | false =>
          obtain ⟨css, hrow, hown⟩ := HQ.out.lrow
          have hMlt := HQ.out.blk.lt
          have aM := (World.cell?_alloc_lt WQ (.cells #[] 64) ⟨M, 2, none⟩ hMlt).trans kQ2
          have hSQ : ∀ k, S k → k < WQ.heap.size := fun k hk => (HQ.out.rng k hk).2.1
          have hflat := hrow.flat
          have hone := hrow.one (fun _ _ h => RTake.one h)
          have Hown := Lib.hid hown
          have Hrow := Lib.hid hrow
          have HSQ := Lib.hid hSQ
          have Hflat := Lib.hid hflat
          have Hone := Lib.hid hone
          obtain ⟨fl, hfl⟩ : ∃ fl, fl = css.flatten := ⟨_, rfl⟩
          rw [← hfl] at Hown Hflat Hone
          have Hfl := Lib.hid hfl
          have hvQ := SliceOf.touch (S' := Sv) RByte.kept Hv.out HTQ.out (fun k hk => HS.out k hk) (fun _ e => e)
          have HvQ := Lib.hid hvQ
          have hSv : ∀ k, Sv k → k < WQ.heap.size := fun k hk => by have := (HS.out k hk).1; have := HzQ.out; omega
          have HSv := Lib.hid hSv
          clear hrow hown hSQ hflat hone hfl hvQ hSv
          go_wp2_with (at_builtin; first
            | (refine wpList_append_src rfl _ _ 32 rfl w1.heap.size 5 (.int .u8 0) 1 1 Try.underlying32 byte_info (by rfl) (by omega) (.slice (some ⟨w1.heap.size, 0, none⟩) 0 0) 0 [] rfl (World.ownsRow_lit w1 #[] 0 (Nat.le_refl _) (by unfold maxLen; omega) rfl) Av v.length cv (v.map byteV) rfl (by simp) (by exact bytes_src (SliceOf.below (S' := Sv) RByte.kept HvQ.out ((Hb1.out).alloc (by have := Hb1.out.size; omega) _) HSv.out (fun _ e => e))) (bytes_one v) (by omega) (by omega) (by simp) ?_; intro v2 w2 hown2 hg2 _; simp only [Nat.zero_add, List.nil_append] at hown2; obtain ⟨A2, c2, rfl⟩ := own_shape hown2; have hb2 : Below w1.heap.size w1 w2 := ((Below.refl _ _).alloc (Nat.le_refl _) _).grown hg2 (by simp) (fun k e => by simp [Value.ownBlock] at e; omega); have Hown2 := Lib.hid hown2; have Hg2 := Lib.hid hg2; have Hb2 := Lib.hid hb2; clear hown2 hg2 hb2)
            | (refine wpList_append_src rfl _ _ 39 rfl WQ.heap.size 64 (.agg #[.int .i64 0, .int .i64 0, .int .i64 0, .slice none 0 0]) 4 48 Try.underlying39 take_inf (by rfl) (by omega) (.slice (some ⟨WQ.heap.size, 0, none⟩) 0 0) 0 [] rfl (World.ownsRow_lit WQ #[] 0 (Nat.le_refl _) (by unfold maxLen; omega) rfl) A L.length c fl rfl Hflat.out (by exact own_src (Hown.out.alloc _)) Hone.out (by omega) (by omega) (by simp) ?_; intro v1 w1 hown1 hg1 _; simp only [Nat.zero_add, List.nil_append] at hown1; obtain ⟨A1, c1, rfl⟩ := own_shape hown1; have hb1 : Below WQ.heap.size WQ w1 := ((Below.refl _ _).alloc (Nat.le_refl _) _).grown hg1 (by simp) (fun k e => by simp [Value.ownBlock] at e; omega); have Hown1 := Lib.hid hown1; have Hg1 := Lib.hid hg1; have Hb1 := Lib.hid hb1; clear hown1 hg1 hb1 aM)
            | (refine wpList_append_src rfl _ _ 39 rfl WQ.heap.size 64 (.agg #[.int .i64 0, .int .i64 0, .int .i64 0, .slice none 0 0]) 4 48 Try.underlying39 take_inf (by rfl) (by omega) (.slice A1 L.length c1) L.length fl rfl (by exact (own_below Hown1.out Hb2.out).alloc _) (some ⟨w2.heap.size, 0, none⟩) 1 1 [.int .i64 s, .int .i64 b, .int .i64 f, .slice A2 v.length c2] rfl rfl (fun _ => ⟨w2.heap.size, 0, rfl, fun j u hj => by have := World.news_of_block (w := w2.alloc _) (heap_alloc_new w2 (.cells #[.int .i64 s, .int .i64 b, .int .i64 f, .slice A2 v.length c2] 64)) j u hj; rwa [WideShapes.add_plain] at this⟩) (by intro u hu; simp at hu; rcases hu with rfl | rfl | rfl | rfl <;> rfl) (by omega) (by omega) (by have h1 := Hb1.out.size; have h2 := Hb2.out.size; simp; omega) ?_; intro v3 w3 hown3 hg3 _; obtain ⟨A3, c3, rfl⟩ := own_shape hown3; have hcp := copy_push (x := (⟨s, b, f, v⟩ : TakeT)) (cs := [.int .i64 s, .int .i64 b, .int .i64 f, .slice A2 v.length c2]) RTake.kept Hrow.out HSQ.out Hg1.out (by rw [← Hfl.out]; exact Hown1.out) Hg2.out Hown2.out hg3 (by rw [← Hfl.out]; exact hown3) rfl (fun W S2 hB => ⟨_, rfl, hB⟩); have hB3 := HQ.out.blk.below hcp.1 hMlt; have x3 := hB3.cell 2; have xf := hB3.frozen 2; have hpl := HQ.out.putL (by have := HzQ.out; omega) hcp.1 hcp.2; have Hpl := Lib.hid hpl; clear hown3 hg3 hcp hB3 hpl; simp only [List.getElem?_toArray, List.getElem?_cons_succ, List.getElem?_cons_zero] at x3))
          go_meet
          refine ⟨?_, (.slice A3 (L.length + 1) c3), dv, ?_, HTQ.out.trans Hpl.out.2 (fun _ _ e => e)⟩
          · rw [HN.out, Hm.out]; rfl
          · have : withL L s b f v = L ++ [⟨s, b, f, v⟩] := by unfold withL; rw [if_neg (by rw [Hm.out]; simp)]
            rw [this, ← HzQ.out]
            exact Hpl.out.1
      case rest =>
        obtain ⟨rfl, lv1, dv1, hR, hT⟩ := hcut
        obtain ⟨Ad, cd, rfl⟩ := hR.drow.shape
        have hdec := rdec_any s hR (by omega)
        have hkd : n.tdiv 2 = n / 2 := Int.tdiv_eq_ediv_of_nonneg hn
        have r0 := hR.blk.cell 0
        have r3 := hR.blk.cell 3
        simp only [List.getElem?_toArray, List.getElem?_cons_succ, List.getElem?_cons_zero] at r0 r3
        obtain ⟨C, hC2⟩ : ∃ C, (hits L s b).length + oneMore (mineIn L s b f) = C := ⟨_, rfl⟩
        rw [hC2]
        have hcb : (C : Int) ≤ 1000001 := by
          have h1 := hits_le L s b
          have h2 : oneMore (mineIn L s b f) ≤ 1 := by unfold oneMore; split <;> omega
          omega
        have hzc := hT.size
        have hvc := SliceOf.touch (S' := Sv) RByte.kept Hv.out hT (fun k hk => HS.out k hk) (fun _ e => e)
        have HC2 := Lib.hid hC2
        have HR := Lib.hid hR
        have HT := Lib.hid hT
        have Hvc := Lib.hid hvc
        clear hR hT hC2 hvc k0 kQ2
        cases hd : doneAt Ds s with
        | some y =>
          rw [hd] at hdec
          have ht : RTook n L Ds s b f v = (true, withL L s b f v, Ds) := by unfold RTook; rw [if_neg (by rw [Hbad.out]; simp), if_neg (by rw [hd]; simp)]
          have Ht := Lib.hid ht
          have Hdec := Lib.hid hdec
          clear ht hdec hd
          go_wp2_with fail
          refine Hdec.out.mono ?_
          rintro e w' ⟨Ay, cy, rfl, _, rfl⟩
          go_wp2_with fail
          go_ret
          unfold RTakeEnd
          rw [Ht.out]
          exact ⟨rfl, _, _, HR.out, HT.out⟩
        | none =>
          rw [hd] at hdec
          by_cases hq : n / 2 + 1 ≤ (C : Int)
          · have ht : RTook n L Ds s b f v = (true, withL L s b f v, Ds ++ [⟨s, v⟩]) := by unfold RTook; rw [if_neg (by rw [Hbad.out]; simp), if_pos ⟨hd, by rw [HC2.out]; exact hq⟩]
            have e5 : decide (n / 2 + 1 ≤ (C : Int)) = true := decide_eq_true hq
            obtain ⟨css, hrow, hown⟩ := HR.out.drow
            have hMlt := HR.out.blk.lt
            have hSR : ∀ k, (S k ∨ (w.heap.size ≤ k ∧ k < wc.heap.size)) → k < wc.heap.size := fun k hk => (HR.out.rng k hk).2.1
            have aM := (World.cell?_alloc_lt wc (.cells #[] 66) ⟨M, 3, none⟩ hMlt).trans r3
            have hflat := hrow.flat
            have hone := hrow.one (fun _ _ h => RDone.one h)
            have Hown := Lib.hid hown
            have Hrow := Lib.hid hrow
            have HSR := Lib.hid hSR
            have Hflat := Lib.hid hflat
            have Hone := Lib.hid hone
            obtain ⟨fl, hfl⟩ : ∃ fl, fl = css.flatten := ⟨_, rfl⟩
            rw [← hfl] at Hown Hflat Hone
            have Hfl := Lib.hid hfl
            have hSv : ∀ k, Sv k → k < wc.heap.size := fun k hk => by have := (HS.out k hk).1; omega
            have HSv := Lib.hid hSv
            have Ht := Lib.hid ht
            have Hdec := Lib.hid hdec
            clear hrow hown hSR hflat hone hfl hSv ht hdec hd
            go_wp2_with fail
            refine Hdec.out.mono ?_
            rintro e w' ⟨rfl, rfl⟩
            go_wp2_with (at_builtin; first
              | (refine wpList_append_src rfl _ _ 32 rfl w1.heap.size 5 (.int .u8 0) 1 1 Try.underlying32 byte_info (by rfl) (by omega) (.slice (some ⟨w1.heap.size, 0, none⟩) 0 0) 0 [] rfl (World.ownsRow_lit w1 #[] 0 (Nat.le_refl _) (by unfold maxLen; omega) rfl) Av v.length cv (v.map byteV) rfl (by simp) (by exact bytes_src (SliceOf.below (S' := Sv) RByte.kept Hvc.out ((Hb1.out).alloc (by have := Hb1.out.size; omega) _) HSv.out (fun _ e => e))) (bytes_one v) (by omega) (by omega) (by simp) ?_; intro v2 w2 hown2 hg2 _; simp only [Nat.zero_add, List.nil_append] at hown2; obtain ⟨A2, c2, rfl⟩ := own_shape hown2; have hb2 : Below w1.heap.size w1 w2 := ((Below.refl _ _).alloc (Nat.le_refl _) _).grown hg2 (by simp) (fun k e => by simp [Value.ownBlock] at e; omega); have Hown2 := Lib.hid hown2; have Hg2 := Lib.hid hg2; have Hb2 := Lib.hid hb2; clear hown2 hg2 hb2)
              | (refine wpList_append_src rfl _ _ 40 rfl wc.heap.size 66 (.agg #[.int .i64 0, .slice none 0 0]) 2 32 Try.underlying40 done_inf (by rfl) (by omega) (.slice (some ⟨wc.heap.size, 0, none⟩) 0 0) 0 [] rfl (World.ownsRow_lit wc #[] 0 (Nat.le_refl _) (by unfold maxLen; omega) rfl) Ad Ds.length cd fl rfl Hflat.out (by exact own_src (Hown.out.alloc _)) Hone.out (by omega) (by omega) (by simp) ?_; intro v1 w1 hown1 hg1 _; simp only [Nat.zero_add, List.nil_append] at hown1; obtain ⟨A1, c1, rfl⟩ := own_shape hown1; have hb1 : Below wc.heap.size wc w1 := ((Below.refl _ _).alloc (Nat.le_refl _) _).grown hg1 (by simp) (fun k e => by simp [Value.ownBlock] at e; omega); have Hown1 := Lib.hid hown1; have Hg1 := Lib.hid hg1; have Hb1 := Lib.hid hb1; clear hown1 hg1 hb1 aM)
              | (refine wpList_append_src rfl _ _ 40 rfl wc.heap.size 66 (.agg #[.int .i64 0, .slice none 0 0]) 2 32 Try.underlying40 done_inf (by rfl) (by omega) (.slice A1 Ds.length c1) Ds.length fl rfl (by exact (own_below Hown1.out Hb2.out).alloc _) (some ⟨w2.heap.size, 0, none⟩) 1 1 [.int .i64 s, .slice A2 v.length c2] rfl rfl (fun _ => ⟨w2.heap.size, 0, rfl, fun j u hj => by have := World.news_of_block (w := w2.alloc _) (heap_alloc_new w2 (.cells #[.int .i64 s, .slice A2 v.length c2] 66)) j u hj; rwa [WideShapes.add_plain] at this⟩) (by intro u hu; simp at hu; rcases hu with rfl | rfl <;> rfl) (by omega) (by omega) (by have h1 := Hb1.out.size; have h2 := Hb2.out.size; simp; omega) ?_; intro v3 w3 hown3 hg3 _; obtain ⟨A3, c3, rfl⟩ := own_shape hown3; have hcp := copy_push (x := (⟨s, v⟩ : DoneT)) (cs := [.int .i64 s, .slice A2 v.length c2]) RDone.kept Hrow.out HSR.out Hg1.out (by rw [← Hfl.out]; exact Hown1.out) Hg2.out Hown2.out hg3 (by rw [← Hfl.out]; exact hown3) rfl (fun W S2 hB => ⟨_, rfl, hB⟩); have hB3 := HR.out.blk.below hcp.1 hMlt; have x3 := hB3.cell 3; have xf := hB3.frozen 3; have hpl := HR.out.putD (by omega) hcp.1 hcp.2; have Hpl := Lib.hid hpl; clear hown3 hg3 hcp hB3 hpl; simp only [List.getElem?_toArray, List.getElem?_cons_succ, List.getElem?_cons_zero] at x3))
            go_ret
            unfold RTakeEnd
            rw [Ht.out]
            refine ⟨rfl, _, _, Hpl.out.1.wider ?_ ?_, HT.out.trans Hpl.out.2 (fun _ _ e => e)⟩
            · rintro k ((hk | hk) | hk)
              · exact .inl hk
              · exact .inr (by have := Hpl.out.2.size; omega)
              · exact .inr (by omega)
            · rintro k (hk | hk)
              · exact Hpl.out.1.rng k (.inl (.inl hk))
              · by_cases hkc : k < wc.heap.size
                · exact Hpl.out.1.rng k (.inl (.inr ⟨hk.1, hkc⟩))
                · exact Hpl.out.1.rng k (.inr ⟨by omega, hk.2⟩)
          · have ht : RTook n L Ds s b f v = (true, withL L s b f v, Ds) := by unfold RTook; rw [if_neg (by rw [Hbad.out]; simp), if_neg (by rw [HC2.out]; exact fun e => hq e.2)]
            have e5 : decide (n / 2 + 1 ≤ (C : Int)) = false := decide_eq_false hq
            have Ht := Lib.hid ht
            have Hdec := Lib.hid hdec
            clear ht hdec hd
            go_wp2_with fail
            refine Hdec.out.mono ?_
            rintro e w' ⟨rfl, rfl⟩
            go_wp2_with fail
            go_ret
            unfold RTakeEnd
            rw [Ht.out]
            exact ⟨rfl, _, _, HR.out, HT.out⟩
end Go.Proofs.Ytkghogfcfocmpaa
