/- The closure of event's put at the slot of bytes. The contract of the shape's each, of a function that changes one block alone: the slots that the pattern has are handed on, one by one. The contract of the shape's put: the fields are put into the event, slot by slot. -/
import Derived.Deep.RegionHeld3
import Derived.Test.YtinabbdecmjcpaaGreatDoorGPut
import Derived.Test.YtinabbdecmjcpaaGreatDoorG08
import Derived.Test.YtinabbdecmjcpaaGreatDoorGShape
namespace Go.Proofs.YtinabbdecmjcpaaGreatDoor.Ev
open Go.RowKit Go.Proofs.YtinabbdecmjcpaaGreatDoor Go.Proofs.YtinabbdecmjcpaaGreatDoor.Plain Go.Proofs.YtinabbdecmjcpaaGreatDoor.Words Go.Proofs.YtinabbdecmjcpaaGreatDoor.Named Go.Proofs.YtinabbdecmjcpaaGreatDoor.Hex Go.Proofs.YtinabbdecmjcpaaGreatDoor.Number Go.Proofs.YtinabbdecmjcpaaGreatDoor.Queue
set_option linter.unusedVariables false

theorem keep_c {W w1 : World} {a : Addr} {v : Value} (hb : Below W.heap.size W w1) (h : W.cell? a = some v) : w1.cell? a = some v := (hb.cell (World.block_lt_of_cell? _ _ h)).trans h
theorem keep_f {W w1 : World} {a : Addr} {v : Value} {f : Bool} (hb : Below W.heap.size W w1) (h : W.cell? a = some v) (k : W.frozen? a = f) : w1.frozen? a = f := (World.frozen?_of_block (w := W) (hb.block _ (World.block_lt_of_cell? _ _ h))).trans k
theorem undrew_p {B : Nat} {w w1 : World} (h : Below B w.drew w1) : Below B w w1 := ⟨h.os, h.tape, h.output, h.size, h.block⟩
theorem keep_set {W : World} {x o b j : Nat} {u v : Value} (hn : b ≠ x) (h : W.cell? ⟨b, j, none⟩ = some v) : (W.setCell ⟨x, o, none⟩ u).cell? ⟨b, j, none⟩ = some v :=
  (World.cell?_setCell_other _ _ _ _ (fun e => hn (congrArg Addr.block e).symm)).trans h
set_option maxRecDepth 100000 in
set_option maxHeartbeats 4000000 in
theorem put_data (i g n cap y x o : Nat) (l : List UInt8) (dv u : Value) (w : World) (hi : i < n) (hn : n ≤ 1000000) (hl : l.length ≤ 100000) (hrow : CRow w dv l) (hyx : y ≠ x) (hgx : g ≠ x) (hy : w.cell? ⟨y, 0, none⟩ = some (.slice (some ⟨g, 0, none⟩) n cap)) (hc : w.cell? ⟨g, i * 3 + 2, none⟩ = some dv) (hx : w.cell? ⟨x, o, none⟩ = some u) (hf : w.frozen? ⟨x, o, none⟩ = false) :
    Calls Tryz.prog 87 #[.int .i64 (i : Int), .agg #[.pointer none, .pointer none, .pointer none, .pointer (some ⟨x, o, none⟩)], .pointer (some ⟨y, 0, none⟩)] w fun e w' => e = .returned (.tuple #[]) ∧ ∃ dv', Put1 x o dv' w w' ∧ CRow w' dv' l ∧ ∀ b, b < w.heap.size → Off dv' b := by
  obtain ⟨ad, cd, rfl⟩ := crow_form hrow
  have i0 : (0 : Int) ≤ (i : Int) := by omega
  have i1 : (i : Int) < (n : Int) := by omega
  have lx := World.block_lt_of_cell? _ _ hx
  simp only at lx
  have nw : w.heap.size ≠ x := by omega
  have hb1 : Below w.heap.size w (w.alloc (.cells #[.pointer none, .pointer none, .pointer none, .pointer (some ⟨x, o, none⟩)] 108)) := (Below.refl _ _).alloc (Nat.le_refl _) _
  have hnew := (C4.new w (.pointer none) (.pointer none) (.pointer none) (.pointer (some ⟨x, o, none⟩)) 108).at'
  have hz : (w.alloc (.cells #[.pointer none, .pointer none, .pointer none, .pointer (some ⟨x, o, none⟩)] 108)).heap.size = w.heap.size + 1 := by simp
  obtain ⟨bb, eb, _, _, _, g3⟩ := hnew
  cases eb
  have gy := keep_c hb1 hy
  have gc := keep_c hb1 hc
  have gx := keep_c hb1 hx
  have gf := keep_f hb1 hx hf
  have HR := Lib.hid (crow_below hrow hb1)
  have HB := Lib.hid hb1
  have HZ := Lib.hid hz
  clear hrow hb1 hy hc hx hf hz
  go_enter Tryz.func87, Tryz.ntmps87
  go_wp2
  generalize w.alloc (.cells #[.pointer none, .pointer none, .pointer none, .pointer (some ⟨x, o, none⟩)] 108) = w1 at *
  go_region_held3 (fun w' => w'.cell? ⟨w.heap.size, 3, none⟩ = some (.pointer (some ⟨x, o, none⟩)) ∧ w'.cell? ⟨y, 0, none⟩ = some (.slice (some ⟨g, 0, none⟩) n cap) ∧ w'.cell? ⟨g, i * 3 + 2, none⟩ = some (.slice ad l.length cd))
    (first | go_keep | exact ⟨keep_set nw p0, keep_set hyx p1, keep_set hgx p2⟩)
    (first
      | (go_at_call 88; refine (clone_any l _ _ hl (by exact HR.out)).mono ?_; rintro e w5 ⟨v5, rfl, hbys, hb5⟩; obtain ⟨a5, c5, rfl⟩ := brow_form (bys_row hbys); have p0 := keep_c hb5 g3; have p1 := keep_c hb5 gy; have p2 := keep_c hb5 gc; have p3 := keep_c hb5 gx; have p4 := keep_f hb5 gx gf; have X5 := Lib.hid (And.intro hbys hb5); clear hbys hb5))
  all_goals
    go_wp2
    go_end0
    refine ⟨rfl, _, (((Put1.set p3).left (Nat.lt_of_lt_of_le lx HB.out.size) (undrew_p X5.out.2)).left lx HB.out), ?_, ?_⟩
    · refine crow_chg (bys_crow X5.out.1) ((Chg.refl [x] _).setCell (p := ⟨x, o, none⟩) (by simp) _) (fun b hb => ?_)
      simp at hb
      subst hb
      exact bys_off X5.out.1 (by have := HB.out.size; exact Nat.lt_of_lt_of_le lx this)
    · exact fun b hb => bys_off X5.out.1 (by have := HB.out.size; exact Nat.lt_of_lt_of_le hb this)
end Go.Proofs.YtinabbdecmjcpaaGreatDoor.Ev

namespace Go.Proofs.YtinabbdecmjcpaaGreatDoor.Ev
open Go.RowKit Go.Proofs.YtinabbdecmjcpaaGreatDoor Go.Proofs.YtinabbdecmjcpaaGreatDoor.Plain Go.Proofs.YtinabbdecmjcpaaGreatDoor.Words Go.Proofs.YtinabbdecmjcpaaGreatDoor.Named Go.Proofs.YtinabbdecmjcpaaGreatDoor.Hex Go.Proofs.YtinabbdecmjcpaaGreatDoor.Number
set_option linter.unusedVariables false

def EachPost (bs : List Nat) (I : World → Prop) (w : World) (e : Ending) (w' : World) : Prop := e = .returned (.tuple #[]) ∧ Chg bs w w' ∧ I w'
set_option maxRecDepth 100000 in
set_option maxHeartbeats 4000000 in
theorem each_any (wd pat : ByteArray) (a2 a3 a4 a5 a6 a7 a8 a9 a10 a11 a12 a13 : Value) (cap : Value) (bs : List Nat) (w : World) (hp : pat.size ≤ 3) (hbs : ∀ b ∈ bs, b < w.heap.size) (I : Nat → World → Prop)
    (hI : ∀ i W W', I i W → Below W.heap.size W W' → I i W')
    (h0 : 0 < pat.size → ∀ W, I 0 W → Calls Tryz.prog 87 #[.int .i64 0, .agg #[a2, a3, a4, a5], cap] W (EachPost bs (I 1) W))
    (h1 : 1 < pat.size → ∀ W, I 1 W → Calls Tryz.prog 87 #[.int .i64 1, .agg #[a6, a7, a8, a9], cap] W (EachPost bs (I 2) W))
    (h2 : 2 < pat.size → ∀ W, I 2 W → Calls Tryz.prog 87 #[.int .i64 2, .agg #[a10, a11, a12, a13], cap] W (EachPost bs (I 3) W))
    (hs : I 0 w) : Calls Tryz.prog 79 #[.agg #[.string wd, .string pat, a2, a3, a4, a5, a6, a7, a8, a9, a10, a11, a12, a13], .func (.func 87) #[] #[cap]] w (EachPost bs (I pat.size) w) := by
  have H0 := Lib.hid h0
  have H1 := Lib.hid h1
  have H2 := Lib.hid h2
  have HI := Lib.hid hI
  have HS := Lib.hid hs
  have HBS := Lib.hid hbs
  have hR := C14.new w (.string wd) (.string pat) a2 a3 a4 a5 a6 a7 a8 a9 a10 a11 a12 a13 111
  have ba : Below w.heap.size w (w.alloc (.cells #[.string wd, .string pat, a2, a3, a4, a5, a6, a7, a8, a9, a10, a11, a12, a13] 111)) := (Below.refl _ _).alloc (Nat.le_refl _) _
  have RR := Lib.hid hR
  have BA := Lib.hid ba
  clear hR ba h0 h1 h2 hI hs hbs
  go_enter Tryz.func79, Tryz.ntmps79
  go_wp2
  go_loopw [8] (fun v wr => ∃ k : Nat, k ≤ pat.size ∧ v = .int .i64 k ∧ Hid (C14 wr w.heap.size (.string wd) (.string pat) a2 a3 a4 a5 a6 a7 a8 a9 a10 a11 a12 a13) ∧ Hid (Chg bs w wr) ∧ Hid (I k wr)) (fun v _ => pat.size - (intOf v).toNat)
  case atStart => exact ⟨0, by omega, rfl, RR, Lib.hid (Chg.of_below BA.out), Lib.hid (HI.out 0 _ _ HS.out BA.out)⟩
  case round =>
    obtain ⟨k, hk, rfl, hC, hch, hik⟩ := hrel
    by_cases hlt : k < pat.size
    · have hnb : w.heap.size ∉ bs := fun h => by have := HBS.out _ h; omega
      have HN := Lib.hid hnb
      clear hnb
      obtain ⟨c0, c1, c2, c3, c4, c5, c6, c7, c8, c9, c10, c11, c12, c13, cf⟩ := hC.out
      clear cf
      have hk3 : k = 0 ∨ k = 1 ∨ k = 2 := by omega
      rcases hk3 with rfl | rfl | rfl
      · have t : decide ((0 : Int) < (pat.size : Int)) = true := by simp; omega
        go_wp2_with (go_at_call 87; refine (H0.out hlt _ hik.out).mono ?_; rintro e w2 ⟨rfl, hc2, hi2⟩)
        go_roundw
        case rel => exact ⟨1, by omega, rfl, Lib.hid (hC.out.chg hc2 HN.out), Lib.hid (hch.out.trans hc2), Lib.hid hi2⟩
        case measure => simp [intOf]; omega
      · have t : decide ((1 : Int) < (pat.size : Int)) = true := by simp; omega
        go_wp2_with (go_at_call 87; refine (H1.out hlt _ hik.out).mono ?_; rintro e w2 ⟨rfl, hc2, hi2⟩)
        go_roundw
        case rel => exact ⟨2, by omega, rfl, Lib.hid (hC.out.chg hc2 HN.out), Lib.hid (hch.out.trans hc2), Lib.hid hi2⟩
        case measure => simp [intOf]; omega
      · have t : decide ((2 : Int) < (pat.size : Int)) = true := by simp; omega
        go_wp2_with (go_at_call 87; refine (H2.out hlt _ hik.out).mono ?_; rintro e w2 ⟨rfl, hc2, hi2⟩)
        go_roundw
        case rel => exact ⟨3, by omega, rfl, Lib.hid (hC.out.chg hc2 HN.out), Lib.hid (hch.out.trans hc2), Lib.hid hi2⟩
        case measure => simp [intOf]; omega
    · obtain rfl : k = pat.size := by omega
      go_wp2
      go_end0
      exact ⟨rfl, hch.out, hik.out⟩
end Go.Proofs.YtinabbdecmjcpaaGreatDoor.Ev

namespace Go.Proofs.YtinabbdecmjcpaaGreatDoor.Ev
open Go.RowKit Go.Proofs.YtinabbdecmjcpaaGreatDoor Go.Proofs.YtinabbdecmjcpaaGreatDoor.Plain Go.Proofs.YtinabbdecmjcpaaGreatDoor.Words Go.Proofs.YtinabbdecmjcpaaGreatDoor.Named Go.Proofs.YtinabbdecmjcpaaGreatDoor.Hex Go.Proofs.YtinabbdecmjcpaaGreatDoor.Number Go.Proofs.YtinabbdecmjcpaaGreatDoor.Queue Go.Proofs.YtinabbdecmjcpaaGreatDoor.Line
set_option linter.unusedVariables false

/-- An event that lies at a block. -/
def EvAt (w : World) (x : Nat) (e : Ev) : Prop := ∃ dv, C8 w x (.int .i64 e.kind) (.int .i64 e.session) (.int .i64 e.stream) (.string e.tenant) (.int .u64 (e.n : Int)) (.int .i64 e.m) (.int .u64 (e.bits : Int)) dv ∧ CRow w dv e.data ∧ ∀ b, b < x + 1 → Off dv b
theorem EvAt.lt {w : World} {x : Nat} {e : Ev} (h : EvAt w x e) : x < w.heap.size := by obtain ⟨dv, h, _⟩ := h; exact h.lt
theorem EvAt.below {w w' : World} {x : Nat} {e : Ev} (h : EvAt w x e) (hb : Below w.heap.size w w') : EvAt w' x e := by
  obtain ⟨dv, h1, h2, h3⟩ := h
  exact ⟨dv, h1.below hb, crow_below h2 hb, h3⟩
/-- Where a slot lies in an event. -/
def offS : Slot → Nat
  | .session => 1 | .stream => 2 | .m => 5 | .tenant => 3 | .n => 4 | .bits => 6 | .data => 7
def sp0 (x : Nat) : Slot → Value
  | .session => .pointer (some ⟨x, 1, none⟩) | .stream => .pointer (some ⟨x, 2, none⟩) | .m => .pointer (some ⟨x, 5, none⟩) | _ => .pointer none
def sp1 (x : Nat) : Slot → Value
  | .n => .pointer (some ⟨x, 4, none⟩) | .bits => .pointer (some ⟨x, 6, none⟩) | _ => .pointer none
def sp2 (x : Nat) : Slot → Value
  | .tenant => .pointer (some ⟨x, 3, none⟩) | _ => .pointer none
def sp3 (x : Nat) : Slot → Value
  | .data => .pointer (some ⟨x, 7, none⟩) | _ => .pointer none
/-- A pointer of the slots of a list, or nil. -/
def spN (f : Slot → Value) (ss : List Slot) (i : Nat) : Value := match ss[i]? with | some s => f s | none => .pointer none

/-- What is known of the fields while they are put. -/
structure PutI (y g cap x : Nat) (fs : List Fld) (dvs : List Value) (ss : List Slot) (e0 : Ev) (i : Nat) (w : World) : Prop where
  box : w.cell? ⟨y, 0, none⟩ = some (.slice (some ⟨g, 0, none⟩) fs.length cap)
  row : w.ownsRow 0 59 3 (.slice (some ⟨g, 0, none⟩) fs.length cap) fs.length (flat fs dvs)
  dat : Datas w fs dvs [] (x + 1)
  ev : EvAt w x (putF e0 (ss.take i) (fs.take i))

theorem PutI.below {y g cap x : Nat} {fs : List Fld} {dvs : List Value} {ss : List Slot} {e0 : Ev} {i : Nat} {w w' : World} (h : PutI y g cap x fs dvs ss e0 i w) (hb : Below w.heap.size w w') : PutI y g cap x fs dvs ss e0 i w' :=
  ⟨keep_c hb h.box, own_block h.row (hb.block _ (own_lt h.row)), h.dat.low (Chg.of_below (bs := []) hb) (by simp), h.ev.below hb⟩
theorem flat_get : ∀ (fs : List Fld) (ds : List Value) (i : Nat) (f : Fld) (d : Value), fs[i]? = some f → ds[i]? = some d → (flat fs ds)[i * 3]? = some (.string (S f.text)) ∧ (flat fs ds)[i * 3 + 1]? = some (.int .u64 (f.n : Int)) ∧ (flat fs ds)[i * 3 + 2]? = some d
  | [], _, i, f, d, h, _ => by simp at h
  | _ :: _, [], i, f, d, _, h => by simp at h
  | g :: fs, e :: ds, 0, f, d, h, k => by
    simp at h k
    subst h k
    exact ⟨rfl, rfl, rfl⟩
  | g :: fs, e :: ds, i + 1, f, d, h, k => by
    have := flat_get fs ds i f d (by simpa using h) (by simpa using k)
    rw [show (i + 1) * 3 = i * 3 + 3 by omega]
    exact this
theorem putF_snoc : ∀ (ss : List Slot) (fs : List Fld) (e : Ev) (s : Slot) (f : Fld), ss.length = fs.length → putF e (ss ++ [s]) (fs ++ [f]) = setF (putF e ss fs) f s
  | [], [], e, s, f, _ => rfl
  | [], _ :: _, e, s, f, h => by simp at h
  | _ :: _, [], e, s, f, h => by simp at h
  | t :: ss, g :: fs, e, s, f, h => by
    show putF (setF e g t) (ss ++ [s]) (fs ++ [f]) = _
    rw [putF_snoc ss fs _ s f (by simpa using h)]
    rfl
/-- What may stand in a field, by its slot. -/
def FldOk (s : Slot) (f : Fld) : Prop := (sign s = 115 → f.n ≤ 2147483647) ∧ f.data.length ≤ 100000
theorem evAt_put {w w' : World} {x : Nat} {e : Ev} {s : Slot} {f : Fld} {v : Value} (h : EvAt w x e) (hs : s ≠ .data) (hp : Put1 x (offS s) v w w')
    (hv : v = match s with | .session | .stream | .m => .int .i64 (f.n : Int) | .n | .bits => .int .u64 (f.n : Int) | .tenant => .string (S f.text) | .data => v) : EvAt w' x (setF e f s) := by
  obtain ⟨dv, h1, h2, h3⟩ := h
  have h2' : CRow w' dv e.data := crow_chg h2 hp.chg (fun b hb => h3 b (by simp at hb; omega))
  have hf : ∀ o, w'.frozen? ⟨x, o, none⟩ = false := fun o => (hp.fz o).trans (h1.fz o)
  cases s
  all_goals simp only [offS] at hp hv
  · subst hv
    exact ⟨dv, ⟨(hp.oth 0 (by decide)).trans h1.c0, hp.at', (hp.oth 2 (by decide)).trans h1.c2, (hp.oth 3 (by decide)).trans h1.c3, (hp.oth 4 (by decide)).trans h1.c4, (hp.oth 5 (by decide)).trans h1.c5, (hp.oth 6 (by decide)).trans h1.c6, (hp.oth 7 (by decide)).trans h1.c7, hf⟩, h2', h3⟩
  · subst hv
    exact ⟨dv, ⟨(hp.oth 0 (by decide)).trans h1.c0, (hp.oth 1 (by decide)).trans h1.c1, hp.at', (hp.oth 3 (by decide)).trans h1.c3, (hp.oth 4 (by decide)).trans h1.c4, (hp.oth 5 (by decide)).trans h1.c5, (hp.oth 6 (by decide)).trans h1.c6, (hp.oth 7 (by decide)).trans h1.c7, hf⟩, h2', h3⟩
  · subst hv
    exact ⟨dv, ⟨(hp.oth 0 (by decide)).trans h1.c0, (hp.oth 1 (by decide)).trans h1.c1, (hp.oth 2 (by decide)).trans h1.c2, (hp.oth 3 (by decide)).trans h1.c3, (hp.oth 4 (by decide)).trans h1.c4, hp.at', (hp.oth 6 (by decide)).trans h1.c6, (hp.oth 7 (by decide)).trans h1.c7, hf⟩, h2', h3⟩
  · subst hv
    exact ⟨dv, ⟨(hp.oth 0 (by decide)).trans h1.c0, (hp.oth 1 (by decide)).trans h1.c1, (hp.oth 2 (by decide)).trans h1.c2, hp.at', (hp.oth 4 (by decide)).trans h1.c4, (hp.oth 5 (by decide)).trans h1.c5, (hp.oth 6 (by decide)).trans h1.c6, (hp.oth 7 (by decide)).trans h1.c7, hf⟩, h2', h3⟩
  · subst hv
    exact ⟨dv, ⟨(hp.oth 0 (by decide)).trans h1.c0, (hp.oth 1 (by decide)).trans h1.c1, (hp.oth 2 (by decide)).trans h1.c2, (hp.oth 3 (by decide)).trans h1.c3, hp.at', (hp.oth 5 (by decide)).trans h1.c5, (hp.oth 6 (by decide)).trans h1.c6, (hp.oth 7 (by decide)).trans h1.c7, hf⟩, h2', h3⟩
  · subst hv
    exact ⟨dv, ⟨(hp.oth 0 (by decide)).trans h1.c0, (hp.oth 1 (by decide)).trans h1.c1, (hp.oth 2 (by decide)).trans h1.c2, (hp.oth 3 (by decide)).trans h1.c3, (hp.oth 4 (by decide)).trans h1.c4, (hp.oth 5 (by decide)).trans h1.c5, hp.at', (hp.oth 7 (by decide)).trans h1.c7, hf⟩, h2', h3⟩
  · exact absurd rfl hs
theorem evAt_cell {w : World} {x : Nat} {e : Ev} (h : EvAt w x e) (s : Slot) : (∃ u, w.cell? ⟨x, offS s, none⟩ = some u) ∧ w.frozen? ⟨x, offS s, none⟩ = false := by
  obtain ⟨dv, h1, _, _⟩ := h
  refine ⟨?_, h1.fz _⟩
  cases s
  · exact ⟨_, h1.c1⟩
  · exact ⟨_, h1.c2⟩
  · exact ⟨_, h1.c5⟩
  · exact ⟨_, h1.c3⟩
  · exact ⟨_, h1.c4⟩
  · exact ⟨_, h1.c6⟩
  · exact ⟨_, h1.c7⟩
/-- The closure, at any slot. -/
theorem put_slot {y g cap x : Nat} {fs : List Fld} {dvs : List Value} {ss : List Slot} {e0 : Ev} (i : Nat) (W : World) (s : Slot) (f : Fld) (hs : ss[i]? = some s) (hf : fs[i]? = some f) (hlen : fs.length = ss.length) (h3 : fs.length ≤ 3) (hok : FldOk s f) (hyx : y ≠ x) (hgx : g ≠ x)
    (h : PutI y g cap x fs dvs ss e0 i W) : Calls Tryz.prog 87 #[.int .i64 (i : Int), .agg #[sp0 x s, sp1 x s, sp2 x s, sp3 x s], .pointer (some ⟨y, 0, none⟩)] W (EachPost [x] (PutI y g cap x fs dvs ss e0 (i + 1)) W) := by
  have hi : i < fs.length := (List.getElem?_eq_some_iff.1 hf).1
  have hid : i < dvs.length := by rw [h.dat.1]; exact hi
  obtain ⟨d, hd⟩ : ∃ d, dvs[i]? = some d := ⟨_, List.getElem?_eq_getElem hid⟩
  obtain ⟨hcr, _, hoff⟩ := h.dat.2 i f d hf hd
  obtain ⟨q0, q1, q2⟩ := flat_get fs dvs i f d hf hd
  have r0 := (World.ownsRow.cellAt h.row (i * 3) (by omega)).trans q0
  have r1 := (World.ownsRow.cellAt h.row (i * 3 + 1) (by omega)).trans q1
  have r2 := (World.ownsRow.cellAt h.row (i * 3 + 2) (by omega)).trans q2
  obtain ⟨⟨u, hu⟩, hfz⟩ := evAt_cell h.ev s
  have hlx := h.ev.lt
  have hes : putF e0 (ss.take (i + 1)) (fs.take (i + 1)) = setF (putF e0 (ss.take i) (fs.take i)) f s := by
    rw [take_snoc hs, take_snoc hf, putF_snoc _ _ _ _ _ (by simp; omega)]
  have fin : ∀ (v : Value) (w' : World), Put1 x (offS s) v W w' → EvAt w' x (setF (putF e0 (ss.take i) (fs.take i)) f s) → EachPost [x] (PutI y g cap x fs dvs ss e0 (i + 1)) W (.returned (.tuple #[])) w' := fun v w' hp he => by
    refine ⟨rfl, hp.chg, ⟨(hp.chg.cell (p := ⟨y, 0, none⟩) (World.block_lt_of_cell? _ _ h.box) (by simpa using hyx)).trans h.box, own_block h.row (hp.chg.block _ (own_lt h.row) (by simpa using hgx)), h.dat.low hp.chg (by simp), ?_⟩⟩
    rw [hes]
    exact he
  cases s
  · refine (put_int i g fs.length cap y x 1 f.n u W hi (by omega) (hok.1 rfl) h.box r1 hu hfz).mono ?_
    rintro e w' ⟨rfl, hp⟩
    exact fin _ _ hp (evAt_put h.ev (by intro e; cases e) hp rfl)
  · refine (put_int i g fs.length cap y x 2 f.n u W hi (by omega) (hok.1 rfl) h.box r1 hu hfz).mono ?_
    rintro e w' ⟨rfl, hp⟩
    exact fin _ _ hp (evAt_put h.ev (by intro e; cases e) hp rfl)
  · refine (put_int i g fs.length cap y x 5 f.n u W hi (by omega) (hok.1 rfl) h.box r1 hu hfz).mono ?_
    rintro e w' ⟨rfl, hp⟩
    exact fin _ _ hp (evAt_put h.ev (by intro e; cases e) hp rfl)
  · refine (put_text i g fs.length cap y x 3 (S f.text) u W hi (by omega) h.box r0 hu hfz).mono ?_
    rintro e w' ⟨rfl, hp⟩
    exact fin _ _ hp (evAt_put h.ev (by intro e; cases e) hp rfl)
  · refine (put_u64 i g fs.length cap y x 4 f.n u W hi (by omega) h.box r1 hu hfz).mono ?_
    rintro e w' ⟨rfl, hp⟩
    exact fin _ _ hp (evAt_put h.ev (by intro e; cases e) hp rfl)
  · refine (put_u64 i g fs.length cap y x 6 f.n u W hi (by omega) h.box r1 hu hfz).mono ?_
    rintro e w' ⟨rfl, hp⟩
    exact fin _ _ hp (evAt_put h.ev (by intro e; cases e) hp rfl)
  · refine (put_data i g fs.length cap y x 7 f.data d u W hi (by omega) hok.2 hcr hyx hgx h.box r2 hu hfz).mono ?_
    rintro e w' ⟨rfl, dv', hp, hcr', hoff'⟩
    refine fin _ _ hp ?_
    obtain ⟨dv0, e1, e2, e3⟩ := h.ev
    exact ⟨dv', ⟨(hp.oth 0 (by decide)).trans e1.c0, (hp.oth 1 (by decide)).trans e1.c1, (hp.oth 2 (by decide)).trans e1.c2, (hp.oth 3 (by decide)).trans e1.c3, (hp.oth 4 (by decide)).trans e1.c4, (hp.oth 5 (by decide)).trans e1.c5, (hp.oth 6 (by decide)).trans e1.c6, hp.at', fun o => (hp.fz o).trans (e1.fz o)⟩, hcr', fun b hb => hoff' b (by omega)⟩

theorem new1_at (W : World) (u : Value) (t : TypeId) (n : Nat) (h : W.heap.size = n) : (W.alloc (.cells #[u] t)).cell? ⟨n, 0, none⟩ = some u := by
  subst h
  exact World.cell?_alloc_at _ _ _ _ rfl
set_option maxRecDepth 100000 in
set_option maxHeartbeats 4000000 in
theorem put_any (wd : ByteArray) (ss : List Slot) (fs : List Fld) (x : Nat) (v : Value) (e0 : Ev) (w : World) (hlen : fs.length = ss.length) (h3 : ss.length ≤ 3) (hok : ∀ (i : Nat) (s : Slot) (f : Fld), ss[i]? = some s → fs[i]? = some f → FldOk s f)
    (hrow : FRow w (x + 1) v fs) (hev : EvAt w x e0) :
    Calls Tryz.prog 68 #[.agg #[.string wd, .string (S (ss.map sign)), spN (sp0 x) ss 0, spN (sp1 x) ss 0, spN (sp2 x) ss 0, spN (sp3 x) ss 0, spN (sp0 x) ss 1, spN (sp1 x) ss 1, spN (sp2 x) ss 1, spN (sp3 x) ss 1, spN (sp0 x) ss 2, spN (sp1 x) ss 2, spN (sp2 x) ss 2, spN (sp3 x) ss 2], v] w
      (EachPost [x] (fun w' => EvAt w' x (putF e0 ss fs)) w) := by
  obtain ⟨g, cap, dvs, rfl, hg, hown, hdat⟩ := hrow
  have hlx := hev.lt
  have hpz : (S (ss.map sign)).size = ss.length := by show (ss.map sign).toArray.size = _; simp
  have hstep : ∀ (y : Nat) (i : Nat) (W : World), y ≠ x → i < (S (ss.map sign)).size → PutI y g cap x fs dvs ss e0 i W → Calls Tryz.prog 87 #[.int .i64 (i : Int), .agg #[spN (sp0 x) ss i, spN (sp1 x) ss i, spN (sp2 x) ss i, spN (sp3 x) ss i], .pointer (some ⟨y, 0, none⟩)] W (EachPost [x] (PutI y g cap x fs dvs ss e0 (i + 1)) W) := fun y i W hyx hi h => by
    rw [hpz] at hi
    have es : ss[i]? = some ss[i] := List.getElem?_eq_getElem hi
    have hif : i < fs.length := by omega
    have ef : fs[i]? = some fs[i] := List.getElem?_eq_getElem hif
    have := put_slot i W ss[i] fs[i] es ef hlen (by omega) (hok i _ _ es ef) hyx (by omega) h
    simpa only [spN, es] using this
  have heach : ∀ (W : World), Below w.heap.size w W → W.cell? ⟨w.heap.size + 1, 0, none⟩ = some (.slice (some ⟨g, 0, none⟩) fs.length cap) → Calls Tryz.prog 79 #[.agg #[.string wd, .string (S (ss.map sign)), spN (sp0 x) ss 0, spN (sp1 x) ss 0, spN (sp2 x) ss 0, spN (sp3 x) ss 0, spN (sp0 x) ss 1, spN (sp1 x) ss 1, spN (sp2 x) ss 1, spN (sp3 x) ss 1, spN (sp0 x) ss 2, spN (sp1 x) ss 2, spN (sp2 x) ss 2, spN (sp3 x) ss 2], .func (.func 87) #[] #[.pointer (some ⟨w.heap.size + 1, 0, none⟩)]] W
      (EachPost [x] (PutI (w.heap.size + 1) g cap x fs dvs ss e0 (S (ss.map sign)).size) W) := fun W hb hc => by
    refine each_any wd (S (ss.map sign)) _ _ _ _ _ _ _ _ _ _ _ _ (.pointer (some ⟨w.heap.size + 1, 0, none⟩)) [x] W (by omega) (fun b hb' => by simp at hb'; have := hb.size; omega) (fun i W => PutI (w.heap.size + 1) g cap x fs dvs ss e0 i W) (fun i W W' h hb => h.below hb) ?_ ?_ ?_ ?_
    · exact fun hi W h => hstep (w.heap.size + 1) 0 W (by omega) hi h
    · exact fun hi W h => hstep (w.heap.size + 1) 1 W (by omega) hi h
    · exact fun hi W h => hstep (w.heap.size + 1) 2 W (by omega) hi h
    · exact ⟨hc, own_block hown (hb.block _ (own_lt hown)), hdat.low (Chg.of_below (bs := []) hb) (by simp), by simpa [putF] using hev.below hb⟩
  have HE := Lib.hid heach
  have fin : Hid (∀ (W w' : World), Below w.heap.size w W → EachPost [x] (PutI (w.heap.size + 1) g cap x fs dvs ss e0 (S (ss.map sign)).size) W (.returned (.tuple #[])) w' → EachPost [x] (fun w' => EvAt w' x (putF e0 ss fs)) w (.returned (.tuple #[])) w') := Lib.hid fun W w' hb ⟨_, hc, hp⟩ => by
    refine ⟨rfl, (Chg.of_below hb).trans hc, ?_⟩
    have := hp.ev
    rw [hpz, List.take_of_length_le (Nat.le_refl _), List.take_of_length_le (by omega)] at this
    exact this
  clear heach hstep hown hdat hev hok hpz hlen
  generalize S (ss.map sign) = pt at *
  generalize spN (sp0 x) ss 0 = a2 at *
  generalize spN (sp1 x) ss 0 = a3 at *
  generalize spN (sp2 x) ss 0 = a4 at *
  generalize spN (sp3 x) ss 0 = a5 at *
  generalize spN (sp0 x) ss 1 = a6 at *
  generalize spN (sp1 x) ss 1 = a7 at *
  generalize spN (sp2 x) ss 1 = a8 at *
  generalize spN (sp3 x) ss 1 = a9 at *
  generalize spN (sp0 x) ss 2 = a10 at *
  generalize spN (sp1 x) ss 2 = a11 at *
  generalize spN (sp2 x) ss 2 = a12 at *
  generalize spN (sp3 x) ss 2 = a13 at *
  go_enter Tryz.func68, Tryz.ntmps68
  go_wp2_with fail
  refine (HE.out _ (((Below.refl _ _).alloc (Nat.le_refl _) _).alloc (by simp) _) ?_).mono ?_
  · refine new1_at _ _ _ _ ?_
    simp
  rintro e w2 ⟨rfl, hp⟩
  go_wp2
  go_end0
  exact fin.out _ _ (((Below.refl _ _).alloc (Nat.le_refl _) _).alloc (by simp) _) ⟨rfl, hp⟩
end Go.Proofs.YtinabbdecmjcpaaGreatDoor.Ev
