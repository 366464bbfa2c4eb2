/- The contract of the shape's take: the fields of an event, slot by slot, and zeros in their place. The contract of the shape's take, walked. -/
import Derived.Test.YtinabbdecmjcpaaGreatDoorG12
import Derived.Test.YtinabbdecmjcpaaGreatDoorG09
import Derived.Test.YtinabbdecmjcpaaGreatDoorG11
namespace Go.Proofs.YtinabbdecmjcpaaGreatDoor.Ev
open Go.RowKit Go.Proofs.YtinabbdecmjcpaaGreatDoor Go.Proofs.YtinabbdecmjcpaaGreatDoor.Plain Go.Proofs.YtinabbdecmjcpaaGreatDoor.Words Go.Proofs.YtinabbdecmjcpaaGreatDoor.Named Go.Proofs.YtinabbdecmjcpaaGreatDoor.Hex Go.Proofs.YtinabbdecmjcpaaGreatDoor.Number
set_option linter.unusedVariables false

/-- An event's cells. -/
def EvC (w : World) (x : Nat) (e : Ev) (dv : Value) : Prop := C8 w x (.int .i64 e.kind) (.int .i64 e.session) (.int .i64 e.stream) (.string e.tenant) (.int .u64 (e.n : Int)) (.int .i64 e.m) (.int .u64 (e.bits : Int)) dv
/-- The bytes that are left. -/
def dvZ (ss : List Slot) (dv : Value) : Value := if Slot.data ∈ ss then .slice none 0 0 else dv
/-- The bytes of a field. -/
def dvT (dv : Value) : Slot → Value
  | .data => dv
  | _ => .slice none 0 0
/-- Three cells of a field. -/
def F3 (w : World) (g k : Nat) (t : List UInt8) (n : Nat) (d : Value) : Prop := w.cell? ⟨g, k * 3, none⟩ = some (.string (S t)) ∧ w.cell? ⟨g, k * 3 + 1, none⟩ = some (.int .u64 (n : Int)) ∧ w.cell? ⟨g, k * 3 + 2, none⟩ = some d
structure TakeI (y g x n : Nat) (ss : List Slot) (e0 : Ev) (dv : Value) (i : Nat) (w : World) : Prop where
  box : w.cell? ⟨y, 0, none⟩ = some (.slice (some ⟨g, 0, none⟩) n n)
  done : ∀ k s, k < i → ss[k]? = some s → F3 w g k (takeF e0 s).text (takeF e0 s).n (dvT dv s)
  rest : ∀ k, i ≤ k → k < n → F3 w g k [] 0 (.slice none 0 0)
  gfz : ∀ k, k < n * 3 → w.frozen? ⟨g, k, none⟩ = false
  ev : EvC w x ((ss.take i).foldl zeroF e0) (dvZ (ss.take i) dv)

theorem F3.below {w w' : World} {g k : Nat} {t : List UInt8} {n : Nat} {d : Value} (h : F3 w g k t n d) (hb : Below w.heap.size w w') : F3 w' g k t n d :=
  ⟨keep_c hb h.1, keep_c hb h.2.1, keep_c hb h.2.2⟩
theorem F3.lt {w : World} {g k : Nat} {t : List UInt8} {n : Nat} {d : Value} (h : F3 w g k t n d) : g < w.heap.size := World.block_lt_of_cell? _ _ h.1
theorem TakeI.below {y g x n : Nat} {ss : List Slot} {e0 : Ev} {dv : Value} {i : Nat} {w w' : World} (hg : g < w.heap.size) (h : TakeI y g x n ss e0 dv i w) (hb : Below w.heap.size w w') : TakeI y g x n ss e0 dv i w' :=
  ⟨keep_c hb h.box, fun k s a b => (h.done k s a b).below hb, fun k a b => (h.rest k a b).below hb, fun k hk => (World.frozen?_of_block (w := w) (hb.block g hg)).trans (h.gfz k hk), C8.below h.ev hb⟩
/-- The fields but one are as they were. -/
theorem F3.other {w w' : World} {g k i j x o : Nat} {v z : Value} {t : List UInt8} {n : Nat} {d : Value} (h : F3 w g k t n d) (hp : Take1 g j x o v z w w') (hj : i * 3 ≤ j ∧ j < i * 3 + 3) (hk : k ≠ i) : F3 w' g k t n d :=
  ⟨(hp.goth (k * 3) (by omega)).trans h.1, (hp.goth (k * 3 + 1) (by omega)).trans h.2.1, (hp.goth (k * 3 + 2) (by omega)).trans h.2.2⟩
theorem take_mem {ss : List Slot} {i : Nat} {s : Slot} (hn : ss.Nodup) (hs : ss[i]? = some s) : s ∉ ss.take i := by
  intro h
  obtain ⟨hi, rfl⟩ := List.getElem?_eq_some_iff.1 hs
  have hn' : (ss.take i ++ ss.drop i).Pairwise (· ≠ ·) := by rw [List.take_append_drop]; exact hn
  have hm : ss[i] ∈ ss.drop i := by rw [List.drop_eq_getElem_cons hi]; exact .head _
  exact (List.pairwise_append.1 hn').2.2 _ h _ hm rfl
/-- What is taken at a slot is what the event had at first. -/
theorem zero_take (ss : List Slot) (e : Ev) (s : Slot) (hs : s ∉ ss) : takeF (ss.foldl zeroF e) s = takeF e s := by
  obtain ⟨z1, z2, z3, z4, z5, z6, z7⟩ := zero_cover ss e
  cases s
  · rw [if_neg hs] at z1; show Fld.mk [] (u64 (ss.foldl zeroF e).session) [] = _; rw [z1]; rfl
  · rw [if_neg hs] at z2; show Fld.mk [] (u64 (ss.foldl zeroF e).stream) [] = _; rw [z2]; rfl
  · rw [if_neg hs] at z3; show Fld.mk [] (u64 (ss.foldl zeroF e).m) [] = _; rw [z3]; rfl
  · rw [if_neg hs] at z4; show Fld.mk (L (ss.foldl zeroF e).tenant) 0 [] = _; rw [z4]; rfl
  · rw [if_neg hs] at z5; show Fld.mk [] (ss.foldl zeroF e).n [] = _; rw [z5]; rfl
  · rw [if_neg hs] at z6; show Fld.mk [] (ss.foldl zeroF e).bits [] = _; rw [z6]; rfl
  · rw [if_neg hs] at z7; show Fld.mk [] 0 (ss.foldl zeroF e).data = _; rw [z7]; rfl
theorem dvZ_snoc (ss : List Slot) (dv : Value) (s : Slot) (h : s ≠ .data) : dvZ (ss ++ [s]) dv = dvZ ss dv := by
  unfold dvZ
  by_cases hd : Slot.data ∈ ss
  · rw [if_pos hd, if_pos (by simp [hd])]
  · rw [if_neg hd, if_neg (by simp [hd]; exact fun e => h e.symm)]
theorem dvZ_data (ss : List Slot) (dv : Value) : dvZ (ss ++ [.data]) dv = .slice none 0 0 := by
  unfold dvZ
  rw [if_pos (by simp)]

set_option maxHeartbeats 1000000 in
/-- The closure, at any slot. -/
theorem take_slot {y g x n : Nat} {ss : List Slot} {e0 : Ev} {dv : Value} (i : Nat) (W : World) (s : Slot) (hs : ss[i]? = some s) (hn : ss.length = n) (h3 : n ≤ 3) (hnd : ss.Nodup) (hdv : ∃ a ln cp, dv = .slice a ln cp) (hyx : y ≠ x) (hyg : y ≠ g) (hgx : g ≠ x)
    (h : TakeI y g x n ss e0 dv i W) : Calls Tryz.prog 80 #[.int .i64 (i : Int), .agg #[sp0 x s, sp1 x s, sp2 x s, sp3 x s], .pointer (some ⟨y, 0, none⟩)] W (EachPost [g, x] (TakeI y g x n ss e0 dv (i + 1)) W) := by
  have hi : i < n := by rw [← hn]; exact (List.getElem?_eq_some_iff.1 hs).1
  obtain ⟨r0, r1, r2⟩ := h.rest i (Nat.le_refl _) hi
  have hnot := take_mem hnd hs
  have htk := zero_take _ e0 s hnot
  have hts := take_snoc hs
  have hz : (ss.take (i + 1)).foldl zeroF e0 = zeroF ((ss.take i).foldl zeroF e0) s := by rw [hts, List.foldl_append]; rfl
  have hev := h.ev
  have fin : ∀ (j : Nat) (v z : Value) (w' : World), Take1 g j x (offS s) v z W w' → (i * 3 ≤ j ∧ j < i * 3 + 3) → F3 w' g i (takeF e0 s).text (takeF e0 s).n (dvT dv s) → EvC w' x (zeroF ((ss.take i).foldl zeroF e0) s) (dvZ (ss.take (i + 1)) dv) → EachPost [g, x] (TakeI y g x n ss e0 dv (i + 1)) W (.returned (.tuple #[])) w' := fun j v z w' hp hj h3' he => by
    refine ⟨rfl, hp.chg, ⟨(hp.chg.cell (p := ⟨y, 0, none⟩) (World.block_lt_of_cell? _ _ h.box) (by simp [hyx, hyg])).trans h.box, fun k t hk ht => ?_, fun k hk hkn => (h.rest k (by omega) hkn).other hp hj (by omega), fun k hk => (hp.gfz k).trans (h.gfz k hk), ?_⟩⟩
    · by_cases hki : k = i
      · subst hki
        cases Option.some.inj (hs.symm.trans ht)
        exact h3'
      · exact (h.done k t (by omega) ht).other hp hj hki
    · rw [hz]; exact he
  generalize (ss.take i).foldl zeroF e0 = ec at *
  have hfz0 := h.gfz (i * 3) (by omega)
  have hfz1 := h.gfz (i * 3 + 1) (by omega)
  have hfz2 := h.gfz (i * 3 + 2) (by omega)
  cases s
  · refine (take_int i g n n y x 1 ec.session _ W hi (by omega) h.box r1 hfz1 hev.c1 (hev.fz _) hgx).mono ?_
    rintro e w' ⟨rfl, hp⟩
    rw [hts, dvZ_snoc _ _ _ (by intro e; cases e)] at fin
    refine fin _ _ _ _ hp (by omega) ⟨(hp.goth _ (by omega)).trans r0, ?_, (hp.goth _ (by omega)).trans r2⟩ ⟨(hp.xoth 0 (by decide)).trans hev.c0, hp.xat, (hp.xoth 2 (by decide)).trans hev.c2, (hp.xoth 3 (by decide)).trans hev.c3, (hp.xoth 4 (by decide)).trans hev.c4, (hp.xoth 5 (by decide)).trans hev.c5, (hp.xoth 6 (by decide)).trans hev.c6, (hp.xoth 7 (by decide)).trans hev.c7, fun o => (hp.xfz o).trans (hev.fz o)⟩
    rw [← htk]; exact hp.gat
  · refine (take_int i g n n y x 2 ec.stream _ W hi (by omega) h.box r1 hfz1 hev.c2 (hev.fz _) hgx).mono ?_
    rintro e w' ⟨rfl, hp⟩
    rw [hts, dvZ_snoc _ _ _ (by intro e; cases e)] at fin
    refine fin _ _ _ _ hp (by omega) ⟨(hp.goth _ (by omega)).trans r0, ?_, (hp.goth _ (by omega)).trans r2⟩ ⟨(hp.xoth 0 (by decide)).trans hev.c0, (hp.xoth 1 (by decide)).trans hev.c1, hp.xat, (hp.xoth 3 (by decide)).trans hev.c3, (hp.xoth 4 (by decide)).trans hev.c4, (hp.xoth 5 (by decide)).trans hev.c5, (hp.xoth 6 (by decide)).trans hev.c6, (hp.xoth 7 (by decide)).trans hev.c7, fun o => (hp.xfz o).trans (hev.fz o)⟩
    rw [← htk]; exact hp.gat
  · refine (take_int i g n n y x 5 ec.m _ W hi (by omega) h.box r1 hfz1 hev.c5 (hev.fz _) hgx).mono ?_
    rintro e w' ⟨rfl, hp⟩
    rw [hts, dvZ_snoc _ _ _ (by intro e; cases e)] at fin
    refine fin _ _ _ _ hp (by omega) ⟨(hp.goth _ (by omega)).trans r0, ?_, (hp.goth _ (by omega)).trans r2⟩ ⟨(hp.xoth 0 (by decide)).trans hev.c0, (hp.xoth 1 (by decide)).trans hev.c1, (hp.xoth 2 (by decide)).trans hev.c2, (hp.xoth 3 (by decide)).trans hev.c3, (hp.xoth 4 (by decide)).trans hev.c4, hp.xat, (hp.xoth 6 (by decide)).trans hev.c6, (hp.xoth 7 (by decide)).trans hev.c7, fun o => (hp.xfz o).trans (hev.fz o)⟩
    rw [← htk]; exact hp.gat
  · refine (take_text i g n n y x 3 ec.tenant _ W hi (by omega) h.box r0 hfz0 hev.c3 (hev.fz _) hgx).mono ?_
    rintro e w' ⟨rfl, hp⟩
    rw [hts, dvZ_snoc _ _ _ (by intro e; cases e)] at fin
    refine fin _ _ _ _ hp (by omega) ⟨?_, (hp.goth _ (by omega)).trans r1, (hp.goth _ (by omega)).trans r2⟩ ⟨(hp.xoth 0 (by decide)).trans hev.c0, (hp.xoth 1 (by decide)).trans hev.c1, (hp.xoth 2 (by decide)).trans hev.c2, hp.xat, (hp.xoth 4 (by decide)).trans hev.c4, (hp.xoth 5 (by decide)).trans hev.c5, (hp.xoth 6 (by decide)).trans hev.c6, (hp.xoth 7 (by decide)).trans hev.c7, fun o => (hp.xfz o).trans (hev.fz o)⟩
    rw [← htk]
    refine hp.gat.trans ?_
    show some (Value.string ec.tenant) = some (.string (S (L ec.tenant)))
    rw [S_L]
  · refine (take_u64 i g n n y x 4 ec.n _ W hi (by omega) h.box r1 hfz1 hev.c4 (hev.fz _) hgx).mono ?_
    rintro e w' ⟨rfl, hp⟩
    rw [hts, dvZ_snoc _ _ _ (by intro e; cases e)] at fin
    refine fin _ _ _ _ hp (by omega) ⟨(hp.goth _ (by omega)).trans r0, ?_, (hp.goth _ (by omega)).trans r2⟩ ⟨(hp.xoth 0 (by decide)).trans hev.c0, (hp.xoth 1 (by decide)).trans hev.c1, (hp.xoth 2 (by decide)).trans hev.c2, (hp.xoth 3 (by decide)).trans hev.c3, hp.xat, (hp.xoth 5 (by decide)).trans hev.c5, (hp.xoth 6 (by decide)).trans hev.c6, (hp.xoth 7 (by decide)).trans hev.c7, fun o => (hp.xfz o).trans (hev.fz o)⟩
    rw [← htk]; exact hp.gat
  · refine (take_u64 i g n n y x 6 ec.bits _ W hi (by omega) h.box r1 hfz1 hev.c6 (hev.fz _) hgx).mono ?_
    rintro e w' ⟨rfl, hp⟩
    rw [hts, dvZ_snoc _ _ _ (by intro e; cases e)] at fin
    refine fin _ _ _ _ hp (by omega) ⟨(hp.goth _ (by omega)).trans r0, ?_, (hp.goth _ (by omega)).trans r2⟩ ⟨(hp.xoth 0 (by decide)).trans hev.c0, (hp.xoth 1 (by decide)).trans hev.c1, (hp.xoth 2 (by decide)).trans hev.c2, (hp.xoth 3 (by decide)).trans hev.c3, (hp.xoth 4 (by decide)).trans hev.c4, (hp.xoth 5 (by decide)).trans hev.c5, hp.xat, (hp.xoth 7 (by decide)).trans hev.c7, fun o => (hp.xfz o).trans (hev.fz o)⟩
    rw [← htk]; exact hp.gat
  · have hd0 : dvZ (ss.take i) dv = dv := by unfold dvZ; rw [if_neg hnot]
    rw [hd0] at hev
    obtain ⟨a, ln, cp, rfl⟩ := hdv
    refine (take_data i g n n y x 7 a ln cp _ W hi (by omega) h.box r2 hfz2 hev.c7 (hev.fz _) hgx).mono ?_
    rintro e w' ⟨rfl, hp⟩
    rw [hts, dvZ_data] at fin
    exact fin _ _ _ _ hp (by omega) ⟨(hp.goth _ (by omega)).trans r0, (hp.goth _ (by omega)).trans r1, hp.gat⟩ ⟨(hp.xoth 0 (by decide)).trans hev.c0, (hp.xoth 1 (by decide)).trans hev.c1, (hp.xoth 2 (by decide)).trans hev.c2, (hp.xoth 3 (by decide)).trans hev.c3, (hp.xoth 4 (by decide)).trans hev.c4, (hp.xoth 5 (by decide)).trans hev.c5, (hp.xoth 6 (by decide)).trans hev.c6, hp.xat, fun o => (hp.xfz o).trans (hev.fz o)⟩
end Go.Proofs.YtinabbdecmjcpaaGreatDoor.Ev

namespace Go.Proofs.YtinabbdecmjcpaaGreatDoor.Ev
open Go.RowKit Go.Proofs.YtinabbdecmjcpaaGreatDoor Go.Proofs.YtinabbdecmjcpaaGreatDoor.Plain Go.Proofs.YtinabbdecmjcpaaGreatDoor.Words Go.Proofs.YtinabbdecmjcpaaGreatDoor.Named Go.Proofs.YtinabbdecmjcpaaGreatDoor.Hex Go.Proofs.YtinabbdecmjcpaaGreatDoor.Number Go.Proofs.YtinabbdecmjcpaaGreatDoor.Line
set_option linter.unusedVariables false

theorem zeros3 (n : Nat) (h : n ≤ 3) : ∀ k, k < n → (madeCells (Value.agg #[.string ⟨#[]⟩, .int .u64 0, .slice none 0 0]).cells (n * 3)).toList[k * 3]? = some (.string ⟨#[]⟩) ∧ (madeCells (Value.agg #[.string ⟨#[]⟩, .int .u64 0, .slice none 0 0]).cells (n * 3)).toList[k * 3 + 1]? = some (.int .u64 0) ∧ (madeCells (Value.agg #[.string ⟨#[]⟩, .int .u64 0, .slice none 0 0]).cells (n * 3)).toList[k * 3 + 2]? = some (.slice none 0 0) := by
  intro k hk
  have hn : n = 1 ∨ n = 2 ∨ n = 3 := by omega
  rcases hn with rfl | rfl | rfl
  · obtain rfl : k = 0 := by omega
    exact ⟨by kernel_rfl, by kernel_rfl, by kernel_rfl⟩
  · have : k = 0 ∨ k = 1 := by omega
    rcases this with rfl | rfl <;> exact ⟨by kernel_rfl, by kernel_rfl, by kernel_rfl⟩
  · have : k = 0 ∨ k = 1 ∨ k = 2 := by omega
    rcases this with rfl | rfl | rfl <;> exact ⟨by kernel_rfl, by kernel_rfl, by kernel_rfl⟩
theorem row_F3 {w : World} {B g n : Nat} (h3 : n ≤ 3) (h : w.ownsRow B 59 3 (.slice (some ⟨g, 0, none⟩) n n) n (madeCells (Value.agg #[.string ⟨#[]⟩, .int .u64 0, .slice none 0 0]).cells (n * 3)).toList) : ∀ k, k < n → F3 w g k [] 0 (.slice none 0 0) := by
  intro k hk
  obtain ⟨a, b, c⟩ := zeros3 n h3 k hk
  exact ⟨(World.ownsRow.cellAt h (k * 3) (by omega)).trans a, (World.ownsRow.cellAt h (k * 3 + 1) (by omega)).trans b, (World.ownsRow.cellAt h (k * 3 + 2) (by omega)).trans c⟩
theorem chg_new {g x : Nat} {w W W' : World} (h : Below w.heap.size w W) (k : Chg [g, x] W W') (hg : w.heap.size ≤ g) : Chg [x] w W' :=
  ⟨k.os.trans h.os, k.tape.trans h.tape, k.output.trans h.output, Nat.le_trans h.size k.size, fun i hi hb => (k.block i (Nat.lt_of_lt_of_le hi h.size) (by simp at hb ⊢; omega)).trans (h.block i hi)⟩
def TakePost (x : Nat) (ss : List Slot) (e0 : Ev) (dv : Value) (w : World) (e : Ending) (w' : World) : Prop :=
  ∃ g, e = .returned (.slice (some ⟨g, 0, none⟩) ss.length ss.length) ∧ g < w'.heap.size ∧ (∀ k s, ss[k]? = some s → F3 w' g k (takeF e0 s).text (takeF e0 s).n (dvT dv s)) ∧ EvC w' x (ss.foldl zeroF e0) (dvZ ss dv) ∧ Chg [x] w w'

set_option maxRecDepth 100000 in
set_option maxHeartbeats 4000000 in
theorem take_any (wd : ByteArray) (ss : List Slot) (x : Nat) (e0 : Ev) (dv : Value) (w : World) (h3 : ss.length ≤ 3) (hnd : ss.Nodup) (hdv : ∃ a ln cp, dv = .slice a ln cp) (hev : EvC w x e0 dv) :
    Calls Tryz.prog 57 #[.agg #[.string wd, .string (S (ss.map sign)), spN (sp0 x) ss 0, spN (sp1 x) ss 0, spN (sp2 x) ss 0, spN (sp3 x) ss 0, spN (sp0 x) ss 1, spN (sp1 x) ss 1, spN (sp2 x) ss 1, spN (sp3 x) ss 1, spN (sp0 x) ss 2, spN (sp1 x) ss 2, spN (sp2 x) ss 2, spN (sp3 x) ss 2]] w
      (TakePost x ss e0 dv w) := by
  obtain ⟨i0, hi, hz0, hz1, hz2⟩ := info_parts info94
  have hlx : x < w.heap.size := C8.lt hev
  have hpz : (S (ss.map sign)).size = ss.length := by show (ss.map sign).toArray.size = _; simp
  have hstep : ∀ (y g : Nat) (i : Nat) (W : World), y ≠ x → y ≠ g → g ≠ x → i < (S (ss.map sign)).size → TakeI y g x ss.length ss e0 dv i W → Calls Tryz.prog 80 #[.int .i64 (i : Int), .agg #[spN (sp0 x) ss i, spN (sp1 x) ss i, spN (sp2 x) ss i, spN (sp3 x) ss i], .pointer (some ⟨y, 0, none⟩)] W (EachPost [g, x] (TakeI y g x ss.length ss e0 dv (i + 1)) W) := fun y g i W h1 h2 h4 hi h => by
    rw [hpz] at hi
    have es : ss[i]? = some ss[i] := List.getElem?_eq_getElem hi
    have := take_slot i W ss[i] es rfl h3 hnd hdv h1 h2 h4 h
    simpa only [spN, es] using this
  have heach : ∀ (W : World) (g y : Nat), Below w.heap.size w W → w.heap.size ≤ g → g < y → y < W.heap.size → W.cell? ⟨y, 0, none⟩ = some (.slice (some ⟨g, 0, none⟩) ss.length ss.length) → (∀ k, k < ss.length → F3 W g k [] 0 (.slice none 0 0)) → (∀ k, W.frozen? ⟨g, k, none⟩ = false) →
      Calls Tryz.prog 79 #[.agg #[.string wd, .string (S (ss.map sign)), spN (sp0 x) ss 0, spN (sp1 x) ss 0, spN (sp2 x) ss 0, spN (sp3 x) ss 0, spN (sp0 x) ss 1, spN (sp1 x) ss 1, spN (sp2 x) ss 1, spN (sp3 x) ss 1, spN (sp0 x) ss 2, spN (sp1 x) ss 2, spN (sp2 x) ss 2, spN (sp3 x) ss 2], .func (.func 80) #[] #[.pointer (some ⟨y, 0, none⟩)]] W
      (EachPost [g, x] (fun w' => TakeI y g x ss.length ss e0 dv (S (ss.map sign)).size w' ∧ g < w'.heap.size) W) := fun W g y hb hg hy hyw hc hf hfz => by
    have hgW : g < W.heap.size := by omega
    have hsz := hb.size
    refine each_take wd (S (ss.map sign)) _ _ _ _ _ _ _ _ _ _ _ _ (.pointer (some ⟨y, 0, none⟩)) [g, x] W (by omega) (fun b hb' => by simp at hb'; rcases hb' with rfl | rfl <;> omega) (fun i W => TakeI y g x ss.length ss e0 dv i W ∧ g < W.heap.size) (fun i W W' h hb => ⟨h.1.below h.2 hb, Nat.lt_of_lt_of_le h.2 hb.size⟩) ?_ ?_ ?_ ?_
    · exact fun hi W h => (hstep y g 0 W (by omega) (by omega) (by omega) hi h.1).mono fun _ _ ⟨a, b, c⟩ => ⟨a, b, c, Nat.lt_of_lt_of_le h.2 b.size⟩
    · exact fun hi W h => (hstep y g 1 W (by omega) (by omega) (by omega) hi h.1).mono fun _ _ ⟨a, b, c⟩ => ⟨a, b, c, Nat.lt_of_lt_of_le h.2 b.size⟩
    · exact fun hi W h => (hstep y g 2 W (by omega) (by omega) (by omega) hi h.1).mono fun _ _ ⟨a, b, c⟩ => ⟨a, b, c, Nat.lt_of_lt_of_le h.2 b.size⟩
    · exact ⟨⟨hc, fun k s hk => absurd hk (by omega), fun k _ hk => hf k hk, fun k _ => hfz k, C8.chg hev (Chg.of_below (bs := []) hb) (by simp)⟩, hgW⟩
  have HE := Lib.hid heach
  have fin : Hid (∀ (W w' : World) (g y : Nat), Below w.heap.size w W → w.heap.size ≤ g → EachPost [g, x] (fun w' => TakeI y g x ss.length ss e0 dv (S (ss.map sign)).size w' ∧ g < w'.heap.size) W (.returned (.tuple #[])) w' → w'.cell? ⟨y, 0, none⟩ = some (.slice (some ⟨g, 0, none⟩) ss.length ss.length) ∧ TakePost x ss e0 dv w (.returned (.slice (some ⟨g, 0, none⟩) ss.length ss.length)) w') := Lib.hid fun W w' g y hb hg ⟨_, hc, hp, hgl⟩ => by
    refine ⟨hp.box, g, rfl, hgl, fun k s hs => hp.done k s ?_ hs, ?_, chg_new hb hc hg⟩
    · rw [hpz]
      exact (List.getElem?_eq_some_iff.1 hs).1
    · have := hp.ev
      rw [hpz, List.take_of_length_le (Nat.le_refl _)] at this
      exact this
  have HP := Lib.hid hpz
  clear heach hstep hev hpz hnd hdv
  generalize S (ss.map sign) = pt at *
  generalize spN (sp0 x) ss 0 = a2 at *
  generalize spN (sp1 x) ss 0 = a3 at *
  generalize spN (sp2 x) ss 0 = a4 at *
  generalize spN (sp3 x) ss 0 = a5 at *
  generalize spN (sp0 x) ss 1 = a6 at *
  generalize spN (sp1 x) ss 1 = a7 at *
  generalize spN (sp2 x) ss 1 = a8 at *
  generalize spN (sp3 x) ss 1 = a9 at *
  generalize spN (sp0 x) ss 2 = a10 at *
  generalize spN (sp1 x) ss 2 = a11 at *
  generalize spN (sp2 x) ss 2 = a12 at *
  generalize spN (sp3 x) ss 2 = a13 at *
  have hb1 : Below w.heap.size w (w.alloc (.cells #[.string wd, .string pt, a2, a3, a4, a5, a6, a7, a8, a9, a10, a11, a12, a13] 111)) := (Below.refl _ _).alloc (Nat.le_refl _) _
  have hR := C14.new w (.string wd) (.string pt) a2 a3 a4 a5 a6 a7 a8 a9 a10 a11 a12 a13 111
  have hz' : (w.alloc (.cells #[.string wd, .string pt, a2, a3, a4, a5, a6, a7, a8, a9, a10, a11, a12, a13] 111)).heap.size = w.heap.size + 1 := by simp
  have HB1 := Lib.hid hb1
  have HR := Lib.hid hR
  have HZ := Lib.hid hz'
  clear hb1 hR hz'
  go_enter Tryz.func57, Tryz.ntmps57
  go_wp2_with (at_make; refine wpList_make_full _ rfl _ _ 60 rfl (w.heap.size + 1) 59 i0 _ 3 Tryz.underlying60 hi hz0 hz1 .i64 .i64 _ _ ss.length rfl rfl (by rw [HP.out]) (by rw [HP.out]) (by rw [hz2]; omega) (by unfold maxLen; omega) (by rw [HZ.out]; omega) ?_; intro w2 hown2 hgr2; have hb2 : Below (w.heap.size + 1) (w.alloc (.cells #[.string wd, .string pt, a2, a3, a4, a5, a6, a7, a8, a9, a10, a11, a12, a13] 111)) w2 := (Below.refl _ _).grown hgr2 (by rw [HZ.out]; omega) (fun k hk => by cases hk); have hc2 := HR.out.chg (bs := []) (Chg.of_below (by rw [HZ.out]; exact hb2)) (by simp); obtain ⟨c0, c1, c2, c3, c4, c5, c6, c7, c8, c9, c10, c11, c12, c13, cf⟩ := hc2; clear cf; have hl0 : w.heap.size < w2.heap.size := World.block_lt_of_cell? _ _ c0; have hne := Nat.ne_of_lt hl0; have X2 := Lib.hid (And.intro hown2 hb2); clear hown2 hgr2 hb2)
  have x1 := X2.out.1
  rw [HZ.out] at x1
  have hg2 := own_lt x1
  have hs2 := X2.out.2.size
  rw [HZ.out] at hs2
  have hba : Below w2.heap.size w2 (w2.alloc (.cells #[.slice (some ⟨w.heap.size + 1, 0, none⟩) ss.length ss.length] 60)) := (Below.refl _ _).alloc (Nat.le_refl _) _
  have hbw : Below w.heap.size w w2 := HB1.out.trans (X2.out.2.mono (by omega))
  have hown' := own_block x1 (hba.block _ hg2)
  refine (HE.out _ (w.heap.size + 1) w2.heap.size (hbw.trans (hba.mono (by omega))) (by omega) hg2 (by simp) (new1_at _ _ _ _ rfl) (row_F3 h3 hown') (fun k => World.ownsRow.frozenAt hown' k)).mono ?_
  rintro e w3 ⟨rfl, hp⟩
  obtain ⟨q1, q2⟩ := fin.out _ _ _ _ (hbw.trans (hba.mono (by omega))) (by omega) ⟨rfl, hp⟩
  have Q2 := Lib.hid q2
  clear q2 hp hown' hbw hba x1
  go_wp2
  go_ret
  exact Q2.out
end Go.Proofs.YtinabbdecmjcpaaGreatDoor.Ev
