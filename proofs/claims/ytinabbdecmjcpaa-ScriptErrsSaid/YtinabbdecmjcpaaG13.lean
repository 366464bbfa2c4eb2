/- The contract of the reader's take: what a line without its end does to what was read so far. The contract of the reader's take, at the lines of a setup; and at any line. -/
import Derived.Deep.RegionLaw
import Derived.Test.YtinabbdecmjcpaaG12
namespace Go.Proofs.Ytinabbdecmjcpaa.Script
open Go.RowKit Go.Deep Go.Proofs.Ytinabbdecmjcpaa Go.Proofs.Ytinabbdecmjcpaa.Plain Go.Proofs.Ytinabbdecmjcpaa.Words Go.Proofs.Ytinabbdecmjcpaa.Named Go.Proofs.Ytinabbdecmjcpaa.Hex Go.Proofs.Ytinabbdecmjcpaa.Number Go.Proofs.Ytinabbdecmjcpaa.Queue Go.Proofs.Ytinabbdecmjcpaa.Line Go.Proofs.Ytinabbdecmjcpaa.Ev
set_option linter.unusedVariables false

def TakePost (st : Rd) (o : Option Rd) (n0 : Nat) (ex : List Nat) (r : Nat) (w : World) (e : Ending) (w' : World) : Prop :=
  e = .returned (.bool o.isSome) ∧ (∀ st', o = some st' → RdAt w' n0 ex r st') ∧ TFr n0 ex w w'
theorem newN (X : World) (K : Nat) (l : List Value) (t : TypeId) (hK : K = X.heap.size) : ∀ j u, l[j]? = some u → (X.alloc (.cells l.toArray t)).cell? (Addr.add ⟨K, 0, none⟩ j) = some u := by
  subst hK
  intro j u hj
  rw [addr_add, Nat.zero_add, World.cell?_alloc_at _ _ _ _ rfl]
  simpa using hj
theorem toList_L (s : ByteArray) : s.toList = L s := ByteArray.toList_eq s
theorem str_ne (s : ByteArray) (l : List UInt8) (h : L s ≠ l) : (s.toList == l) = false := by rw [beq_eq_false_iff_ne, toList_L]; exact h
theorem str_eq (s : ByteArray) (l : List UInt8) (h : L s = l) : (s.toList == l) = true := by rw [beq_iff_eq, toList_L]; exact h

section
variable {w : World} {n0 : Nat} {ex : List Nat} {r : Nat} {st : Rd} {vt ve : Value} {ks ds : List Value}
set_option maxRecDepth 100000 in
set_option maxHeartbeats 4000000 in
theorem take_empty (h : RdIs w n0 ex r st vt ve ks ds) : Calls Try.prog 70 #[.pointer (some ⟨r, 0, none⟩), .string ⟨#[]⟩] w (TakePost st (takeOf st []) n0 ex r w) := by
  have H := Lib.hid h
  clear h
  go_enter Try.func70, Try.ntmps70
  go_wp2
  go_ret
  exact ⟨rfl, fun st' e => by cases Option.some.inj e; exact ⟨_, _, _, _, H.out⟩, TFr.of_below (Below.refl _ _) H.out.n0_le H.out.ex_lt⟩
set_option maxRecDepth 100000 in
set_option maxHeartbeats 4000000 in
theorem take_note (x : ByteArray) (hx : 0 < x.size) (hc : (x[0]'hx) = 35) (h : RdIs w n0 ex r st vt ve ks ds) : Calls Try.prog 70 #[.pointer (some ⟨r, 0, none⟩), .string x] w (TakePost st (takeOf st (L x)) n0 ex r w) := by
  have H := Lib.hid h
  obtain ⟨e1, e2⟩ := empty_no x hx
  have hcn : ((x[0]'hx).toNat : Int) = 35 := by rw [hc]; rfl
  have ix : ∀ W, (Instr.index 9 (.string x) (.int .i64 0)).run Try.prog W = .ok (.int .u8 35) W := fun W => by
    rw [← hcn]
    go_simp
  have ht : takeOf st (L x) = some st := by
    unfold takeOf
    rw [if_pos]
    right
    obtain ⟨l, hl⟩ := head_L x hx
    rw [hl, hc]
    rfl
  rw [ht]
  clear h ht hc hcn
  go_enter Try.func70, Try.ntmps70
  go_wp2
  go_ret
  exact ⟨rfl, fun st' e => by cases Option.some.inj e; exact ⟨_, _, _, _, H.out⟩, TFr.of_below (Below.refl _ _) H.out.n0_le H.out.ex_lt⟩

theorem grow_r {w' : World} {o : Obj} (h : RdIs w n0 ex r st vt ve ks ds) (hg : (w.alloc o).drew.grownBy w' ve.ownBlock) : w'.cell? ⟨r, 3, none⟩ = some ve ∧ w'.frozen? ⟨r, 3, none⟩ = false := by
  have h' : RdIs (w.alloc o).drew n0 ex r st vt ve ks ds := h.below ((Below.refl _ _).alloc (Nat.le_refl _) _).drew
  have hr := (chg_grow hg).block r h'.lt (by simpa using h.ae)
  exact ⟨(World.cell?_of_block (w := (w.alloc o).drew) (a := ⟨r, 3, none⟩) hr).trans h'.c3, (World.frozen?_of_block (w := (w.alloc o).drew) (a := ⟨r, 3, none⟩) hr).trans (h'.fz 3)⟩
/-- A line that is neither empty nor a note. -/
def Plainly (x : ByteArray) : Prop := ∃ hx : 0 < x.size, (x[0]'hx) ≠ 35
theorem plainly_take {x : ByteArray} (h : Plainly x) : ¬ (L x = [] ∨ (L x).head? = some 35) := by
  obtain ⟨hx, hc⟩ := h
  obtain ⟨l, hl⟩ := head_L x hx
  rw [hl]
  simp
  exact hc
set_option maxRecDepth 100000 in
set_option maxHeartbeats 8000000 in
theorem take_ev (x : ByteArray) (hp : Plainly x) (hs : x.size ≤ 100000) (h1 : first (words (L x)) ≠ wTen) (h2 : first (words (L x)) ≠ wCap) (h3 : first (words (L x)) ≠ wSes) (hn : st.evs.length + 1 ≤ 1000000) (h : RdIs w n0 ex r st vt ve ks ds) :
    Calls Try.prog 70 #[.pointer (some ⟨r, 0, none⟩), .string x] w (TakePost st (takeOf st (L x)) n0 ex r w) := by
  have H := Lib.hid h
  have ht : takeOf st (L x) = if (parseOf (L x)).2 ≠ 0 then none else some { st with evs := st.evs ++ [(parseOf (L x)).1] } := by
    unfold takeOf
    rw [if_neg (plainly_take hp), if_neg h1, if_neg h2, if_neg h3]
  generalize takeOf st (L x) = O at *
  obtain ⟨hx, hc⟩ := hp
  obtain ⟨e1, e2⟩ := empty_no x hx
  have hcn : (((x[0]'hx).toNat : Int) == 35) = false := by
    rw [beq_eq_false_iff_ne]
    intro e
    apply hc
    apply UInt8.toNat_inj.1
    show (x[0]'hx).toNat = 35
    omega
  have ix : ∀ W, (Instr.index 9 (.string x) (.int .i64 0)).run Try.prog W = .ok (.int .u8 ((x[0]'hx).toNat : Int)) W := fun W => by go_simp
  generalize (x[0]'hx).toNat = c0 at *
  have hwd := Lib.hid (fun W => word_any x W (by omega))
  have hpa : Hid (∀ W, Calls Try.prog 91 #[.string x] W fun e w' => ∃ dv, e = .returned (.tuple #[evV (parseOf (L x)).1 dv, .int .i64 ((parseOf (L x)).2 : Int)]) ∧ CRow w' dv (parseOf (L x)).1.data ∧ (∀ b, b < W.heap.size → Off dv b) ∧ Below W.heap.size W w') := Lib.hid fun W => parse_any x W hs
  rw [first_eq] at hwd
  have t1 : ((S (first (words (L x)))).toList == [116, 101, 110, 97, 110, 116]) = false := str_ne _ _ h1
  have t2 : ((S (first (words (L x)))).toList == [99, 97, 112, 97, 99, 105, 116, 121]) = false := str_ne _ _ h2
  have t3 : ((S (first (words (L x)))).toList == [115, 101, 115, 115, 105, 111, 110, 115]) = false := str_ne _ _ h3
  have t1' : ¬ (S (first (words (L x)))).toList = [116, 101, 110, 97, 110, 116] := by rw [beq_eq_false_iff_ne] at t1; exact t1
  have t2' : ¬ (S (first (words (L x)))).toList = [99, 97, 112, 97, 99, 105, 116, 121] := by rw [beq_eq_false_iff_ne] at t2; exact t2
  have t3' : ¬ (S (first (words (L x)))).toList = [115, 101, 115, 115, 105, 111, 110, 115] := by rw [beq_eq_false_iff_ne] at t3; exact t3
  generalize S (first (words (L x))) = y at *
  generalize (parseOf (L x)).1 = E at *
  generalize (parseOf (L x)).2 = er at *
  obtain ⟨i0, hi, hz0, hz1, hz2⟩ := info_parts info104
  have HT := Lib.hid ht
  clear h h1 h2 h3 ht hc
  go_enter Try.func70, Try.ntmps70
  go_wp2_with fail
  refine (hwd.out _).mono ?_
  rintro e w1 ⟨rfl, hb1⟩
  have B1 := Lib.hid hb1
  clear hb1
  go_wp2_with fail
  refine (hpa.out _).mono ?_
  rintro e w2 ⟨dv, rfl, hcr, hof, hb2⟩
  obtain ⟨ad, cd, rfl⟩ := crow_form hcr
  have B2 := Lib.hid (bt B1.out hb2)
  have HC := Lib.hid (And.intro hcr hof)
  have hs1 := B1.out.size
  clear hb2 hcr hof
  by_cases her : er = 0
  rotate_left
  · have t : ((er : Int) != 0) = true := by rw [bne_iff_ne]; omega
    go_wp2
    go_ret
    have hO : O = none := by rw [HT.out, if_pos her]
    refine ⟨by rw [hO]; rfl, fun st' e => (by rw [hO] at e; cases e), ?_⟩
    exact TFr.of_below (B2.out.alloc B2.out.size _) H.out.n0_le H.out.ex_lt
  · have t : ((er : Int) != 0) = false := by rw [bne_eq_false_iff_eq]; omega
    have hO : O = some { st with evs := st.evs ++ [E] } := by rw [HT.out, if_neg (by rw [her]; simp)]
    have HO := Lib.hid hO
    clear hO
    go_wp2_with fail
    have b3 : Below w2.heap.size w2 (w2.alloc (.cells #[.int .i64 E.kind, .int .i64 E.session, .int .i64 E.stream, .string E.tenant, .int .u64 (E.n : Int), .int .i64 E.m, .int .u64 (E.bits : Int), .slice ad E.data.length cd] 104)) := (Below.refl _ _).alloc (Nat.le_refl _) _
    have B3 := Lib.hid (bt B2.out b3)
    have E3 := C8.new w2 (.int .i64 E.kind) (.int .i64 E.session) (.int .i64 E.stream) (.string E.tenant) (.int .u64 (E.n : Int)) (.int .i64 E.m) (.int .u64 (E.bits : Int)) (.slice ad E.data.length cd) 104
    have HC3 := Lib.hid (crow_below HC.out.1 b3)
    have R3 := Lib.hid (H.out.below B3.out)
    generalize w2.alloc (.cells #[.int .i64 E.kind, .int .i64 E.session, .int .i64 E.stream, .string E.tenant, .int .u64 (E.n : Int), .int .i64 E.m, .int .u64 (E.bits : Int), .slice ad E.data.length cd] 104) = W3 at *
    obtain ⟨x0, x1, x2, x3, x4, x5, x6, x7, xf⟩ := E3
    have r3 := R3.out.c3
    have rl : r < W3.heap.size := R3.out.lt
    obtain ⟨ae, ce, rfl⟩ := own_form R3.out.oe
    clear xf b3
    go_region_law (refine step_append_one (by rfl) (.tmp 32) (.tmp 34) 65 104 (by rfl) n0 i0 _ 8 88 Try.underlying65 hi hz0 hz1 hz2 rfl (by decide) _ st.evs.length (flatE st.evs ds) (by rfl) (by exact World.ownsRow.alloc R3.out.oe _) ⟨_, 0, none⟩ [.int .i64 E.kind, .int .i64 E.session, .int .i64 E.stream, .string E.tenant, .int .u64 (E.n : Int), .int .i64 E.m, .int .u64 (E.bits : Int), .slice ad E.data.length cd] (by rfl) rfl (by exact newN _ _ _ _ rfl) (by simp [Value.oneCell']) hn (by decide) (by have := R3.out.n0_le; simp; omega) ?_; intro g' cap' w5 hown5 hgrow5 hat5; have y0 := (grow_r R3.out hgrow5).1; have y1 := (grow_r R3.out hgrow5).2)
    all_goals
      have hpush := H.out.push_ev (e := E) (bt B3.out ((Below.refl _ _).alloc (Nat.le_refl _) _).drew) hown5 hgrow5 hat5 (crow_below HC3.out ((Below.refl _ _).alloc (Nat.le_refl _) _).drew) (fun b hb => HC.out.2 b (by omega))
      have HPU := Lib.hid hpush
      clear hpush hown5 hgrow5 hat5
      go_wp2
      go_ret
      exact ⟨by rw [HO.out]; rfl, fun st' e => (by rw [HO.out] at e; cases Option.some.inj e; exact HPU.out.1), HPU.out.2⟩
end
end Go.Proofs.Ytinabbdecmjcpaa.Script

namespace Go.Proofs.Ytinabbdecmjcpaa.Script
open Go.RowKit Go.Deep Go.Proofs.Ytinabbdecmjcpaa Go.Proofs.Ytinabbdecmjcpaa.Plain Go.Proofs.Ytinabbdecmjcpaa.Words Go.Proofs.Ytinabbdecmjcpaa.Named Go.Proofs.Ytinabbdecmjcpaa.Hex Go.Proofs.Ytinabbdecmjcpaa.Number Go.Proofs.Ytinabbdecmjcpaa.Queue Go.Proofs.Ytinabbdecmjcpaa.Line Go.Proofs.Ytinabbdecmjcpaa.Ev
set_option linter.unusedVariables false

theorem fields1 (l wd : List UInt8) (h : checkOf (words l) wd [115] = 0) : ∃ f, fieldsOf (words l) [115] = [f] ∧ f.n ≤ 2147483647 := by
  obtain ⟨xs, hw, hlen, hs⟩ := check_zero _ _ _ h
  rw [hw]
  match xs, hlen with
  | [x], _ =>
    obtain ⟨a, _⟩ := signs_cons _ _ _ _ hs
    refine ⟨_, rfl, ?_⟩
    obtain ⟨e, _, b⟩ := err_s x a
    rw [e]
    exact b
theorem fields2 (l wd : List UInt8) (h : checkOf (words l) wd [116, 98] = 0) : ∃ f g, fieldsOf (words l) [116, 98] = [f, g] ∧ g.data.length ≤ l.length := by
  obtain ⟨xs, hw, hlen, hs⟩ := check_zero _ _ _ h
  have hj := (words_back _ _ hw).1
  rw [hw]
  match xs, hlen with
  | [x, y], _ =>
    obtain ⟨_, b⟩ := signs_cons _ _ _ _ hs
    obtain ⟨b, _⟩ := signs_cons _ _ _ _ b
    refine ⟨_, _, rfl, ?_⟩
    obtain ⟨d, e, hb⟩ := err_b y b
    rw [e]
    have h1 := data_len y d hb
    have h2 := join_len (wd :: [x, y]) y (by simp)
    rw [hj] at h2
    exact Nat.le_trans h1 h2
theorem frow_form {W : World} {B : Nat} {v : Value} {fs : List Fld} (h : FRow W B v fs) : ∃ g cap, v = .slice (some ⟨g, 0, none⟩) fs.length cap ∧ ∀ (i : Nat) (f : Fld), fs[i]? = some f → W.cell? ⟨g, i * 3, none⟩ = some (.string (S f.text)) ∧ W.cell? ⟨g, i * 3 + 1, none⟩ = some (.int .u64 (f.n : Int)) ∧ ∃ d, W.cell? ⟨g, i * 3 + 2, none⟩ = some d ∧ CRow W d f.data ∧ ∀ b, b < B → Off d b := by
  obtain ⟨g, cap, dvs, rfl, hg, ho, hd⟩ := h
  refine ⟨g, cap, rfl, fun i f hf => ?_⟩
  have hi : i < fs.length := (List.getElem?_eq_some_iff.1 hf).1
  have hid : i < dvs.length := by rw [hd.1]; exact hi
  obtain ⟨d, hdv⟩ : ∃ d, dvs[i]? = some d := ⟨_, List.getElem?_eq_getElem hid⟩
  obtain ⟨q0, q1, q2⟩ := flat_get fs dvs i f d hf hdv
  have hx := hd.2 i f d hf hdv
  exact ⟨(World.ownsRow.cellAt ho (i * 3) (by omega)).trans q0, (World.ownsRow.cellAt ho (i * 3 + 1) (by omega)).trans q1, d, (World.ownsRow.cellAt ho (i * 3 + 2) (by omega)).trans q2, hx.1, hx.2.2⟩

section
variable {w : World} {n0 : Nat} {ex : List Nat} {r : Nat} {st : Rd} {vt ve : Value} {ks ds : List Value}
set_option maxRecDepth 100000 in
set_option maxHeartbeats 8000000 in
theorem take_cap (x : ByteArray) (hp : Plainly x) (hs : x.size ≤ 100000) (h2 : first (words (L x)) = wCap) (h : RdIs w n0 ex r st vt ve ks ds) :
    Calls Try.prog 70 #[.pointer (some ⟨r, 0, none⟩), .string x] w (TakePost st (takeOf st (L x)) n0 ex r w) := by
  have H := Lib.hid h
  have h1 : first (words (L x)) ≠ wTen := by rw [h2]; decide
  have h3 : first (words (L x)) ≠ wSes := by rw [h2]; decide
  have ht : takeOf st (L x) = (if checkOf (words (L x)) wCap [115] ≠ 0 ∨ st.evs ≠ [] then none
     else match fieldsOf (words (L x)) [115] with
       | [f] => some { st with cap := f.n }
       | _ => none) := by
    unfold takeOf
    rw [if_neg (plainly_take hp), if_neg h1, if_pos h2]
    rfl
  generalize takeOf st (L x) = O at *
  obtain ⟨hx, hc⟩ := hp
  obtain ⟨e1, e2⟩ := empty_no x hx
  have hcn : (((x[0]'hx).toNat : Int) == 35) = false := by
    rw [beq_eq_false_iff_ne]
    intro e
    apply hc
    apply UInt8.toNat_inj.1
    show (x[0]'hx).toNat = 35
    omega
  have ix : ∀ W, (Instr.index 9 (.string x) (.int .i64 0)).run Try.prog W = .ok (.int .u8 ((x[0]'hx).toNat : Int)) W := fun W => by go_simp
  generalize (x[0]'hx).toNat = c0 at *
  have hwd := Lib.hid (fun W => word_any x W (by omega))
  have hlr := Lib.hid (fun W => lineread_any x (S wCap) (S [115]) W (by omega) (by show [115].toArray.size ≤ _; simp) (by intro c hc; have : c ∈ [115] := hc; simp at this; subst this; rfl))
  rw [first_eq, h2] at hwd
  rw [show L (S wCap) = wCap from rfl, show L (S [115]) = [115] from rfl] at hlr
  have t1 : ((S wCap).toList == [116, 101, 110, 97, 110, 116]) = false := str_ne _ _ (by decide)
  have t2 : ((S wCap).toList == [99, 97, 112, 97, 99, 105, 116, 121]) = true := str_eq _ _ rfl
  have t1' : ¬ (S wCap).toList = [116, 101, 110, 97, 110, 116] := by rw [beq_eq_false_iff_ne] at t1; exact t1
  have hf1 := fields1 (L x) wCap
  generalize checkOf (words (L x)) wCap [115] = ER at *
  generalize fieldsOf (words (L x)) [115] = FS at *
  have HT := Lib.hid ht
  have HF := Lib.hid hf1
  clear h h1 h2 h3 ht hc hf1
  generalize S wCap = y at *
  rw [show S [115] = ⟨#[115]⟩ from rfl] at hlr
  obtain ⟨ae, ce, hve⟩ := own_form H.out.oe
  subst hve
  go_enter Try.func70, Try.ntmps70
  go_wp2_with fail
  refine (hwd.out _).mono ?_
  rintro e w1 ⟨rfl, hb1⟩
  have B1 := Lib.hid hb1
  clear hb1
  go_wp2_with fail
  refine (hlr.out _).mono ?_
  rintro e w2 ⟨v, rfl, hb2, hv0, hv1⟩
  have B2 := Lib.hid (bt B1.out hb2)
  have hs1 := B1.out.size
  have R2 := Lib.hid (H.out.below B2.out)
  have r3 := R2.out.c3
  clear hb2
  by_cases her : ER = 0
  rotate_left
  · have t : ((ER : Int) != 0) = true := by rw [bne_iff_ne]; omega
    obtain rfl := hv0 her
    have hO : O = none := by rw [HT.out, if_pos (.inl her)]
    have HO := Lib.hid hO
    clear hO hv0 hv1
    go_wp2
    go_ret
    refine ⟨by rw [HO.out]; rfl, fun st' e => (by rw [HO.out] at e; cases e), ?_⟩
    exact TFr.of_below B2.out H.out.n0_le H.out.ex_lt
  · have t : ((ER : Int) != 0) = false := by rw [bne_eq_false_iff_eq]; omega
    obtain ⟨f, rfl, hfn⟩ := HF.out her
    obtain ⟨g, cap, rfl, hcell⟩ := frow_form (hv1 her)
    by_cases hev : st.evs = []
    rotate_left
    · have hlen : 0 < st.evs.length := List.length_pos_iff.2 hev
      have tl : decide ((0 : Int) < (st.evs.length : Int)) = true := decide_eq_true (by omega)
      have hO : O = none := by rw [HT.out, if_pos (.inr hev)]
      have HO := Lib.hid hO
      clear hO hv0 hv1 hcell
      go_wp2
      go_ret
      refine ⟨by rw [HO.out]; rfl, fun st' e => (by rw [HO.out] at e; cases e), ?_⟩
      exact TFr.of_below B2.out H.out.n0_le H.out.ex_lt
    · have hlen : st.evs.length = 0 := by rw [hev]; rfl
      have tl : decide ((0 : Int) < (st.evs.length : Int)) = false := decide_eq_false (by omega)
      have tl2 : decide (0 < st.evs.length) = false := decide_eq_false (by omega)
      have tl3 : ¬ 0 < st.evs.length := by omega
      have hO : O = some { st with cap := f.n } := by rw [HT.out, if_neg (by rintro (h | h); exact h her; exact h hev)]
      have HO := Lib.hid hO
      have c1 : w2.cell? ⟨g, 1, none⟩ = some (.int .u64 (f.n : Int)) := (hcell 0 f rfl).2.1
      have wn : IntKind.i64.wrap (f.n : Int) = (f.n : Int) := IntWalk.i64_in _ (by omega)
      have r1 := R2.out.c1
      have rf := R2.out.fz 1
      have hset := H.out.set_cap (k := (f.n : Int)) B2.out
      have HS := Lib.hid hset
      clear hO hv0 hv1 hcell hset hev hlen
      simp only [List.length_cons, List.length_nil, Nat.zero_add] at *
      go_wp2
      go_ret
      exact ⟨by rw [HO.out]; rfl, fun st' e => (by rw [HO.out] at e; cases Option.some.inj e; exact HS.out.1), HS.out.2⟩
set_option maxRecDepth 100000 in
set_option maxHeartbeats 8000000 in
theorem take_ses (x : ByteArray) (hp : Plainly x) (hs : x.size ≤ 100000) (h3 : first (words (L x)) = wSes) (h : RdIs w n0 ex r st vt ve ks ds) :
    Calls Try.prog 70 #[.pointer (some ⟨r, 0, none⟩), .string x] w (TakePost st (takeOf st (L x)) n0 ex r w) := by
  have H := Lib.hid h
  have h1 : first (words (L x)) ≠ wTen := by rw [h3]; decide
  have h2 : first (words (L x)) ≠ wCap := by rw [h3]; decide
  have ht : takeOf st (L x) = (if checkOf (words (L x)) wSes [115] ≠ 0 ∨ st.evs ≠ [] then none
     else match fieldsOf (words (L x)) [115] with
       | [f] => some { st with sess := f.n }
       | _ => none) := by
    unfold takeOf
    rw [if_neg (plainly_take hp), if_neg h1, if_neg h2, if_pos h3]
    rfl
  generalize takeOf st (L x) = O at *
  obtain ⟨hx, hc⟩ := hp
  obtain ⟨e1, e2⟩ := empty_no x hx
  have hcn : (((x[0]'hx).toNat : Int) == 35) = false := by
    rw [beq_eq_false_iff_ne]
    intro e
    apply hc
    apply UInt8.toNat_inj.1
    show (x[0]'hx).toNat = 35
    omega
  have ix : ∀ W, (Instr.index 9 (.string x) (.int .i64 0)).run Try.prog W = .ok (.int .u8 ((x[0]'hx).toNat : Int)) W := fun W => by go_simp
  generalize (x[0]'hx).toNat = c0 at *
  have hwd := Lib.hid (fun W => word_any x W (by omega))
  have hlr := Lib.hid (fun W => lineread_any x (S wSes) (S [115]) W (by omega) (by show [115].toArray.size ≤ _; simp) (by intro c hc; have : c ∈ [115] := hc; simp at this; subst this; rfl))
  rw [first_eq, h3] at hwd
  rw [show L (S wSes) = wSes from rfl, show L (S [115]) = [115] from rfl] at hlr
  have t1 : ((S wSes).toList == [116, 101, 110, 97, 110, 116]) = false := str_ne _ _ (by decide)
  have t2 : ((S wSes).toList == [99, 97, 112, 97, 99, 105, 116, 121]) = false := str_ne _ _ (by decide)
  have t3 : ((S wSes).toList == [115, 101, 115, 115, 105, 111, 110, 115]) = true := str_eq _ _ rfl
  have t2' : ¬ (S wSes).toList = [99, 97, 112, 97, 99, 105, 116, 121] := by rw [beq_eq_false_iff_ne] at t2; exact t2
  have t1' : ¬ (S wSes).toList = [116, 101, 110, 97, 110, 116] := by rw [beq_eq_false_iff_ne] at t1; exact t1
  have hf1 := fields1 (L x) wSes
  generalize checkOf (words (L x)) wSes [115] = ER at *
  generalize fieldsOf (words (L x)) [115] = FS at *
  have HT := Lib.hid ht
  have HF := Lib.hid hf1
  clear h h1 h2 h3 ht hc hf1
  generalize S wSes = y at *
  rw [show S [115] = ⟨#[115]⟩ from rfl] at hlr
  obtain ⟨ae, ce, hve⟩ := own_form H.out.oe
  subst hve
  go_enter Try.func70, Try.ntmps70
  go_wp2_with fail
  refine (hwd.out _).mono ?_
  rintro e w1 ⟨rfl, hb1⟩
  have B1 := Lib.hid hb1
  clear hb1
  go_wp2_with fail
  refine (hlr.out _).mono ?_
  rintro e w2 ⟨v, rfl, hb2, hv0, hv1⟩
  have B2 := Lib.hid (bt B1.out hb2)
  have hs1 := B1.out.size
  have R2 := Lib.hid (H.out.below B2.out)
  have r3 := R2.out.c3
  clear hb2
  by_cases her : ER = 0
  rotate_left
  · have t : ((ER : Int) != 0) = true := by rw [bne_iff_ne]; omega
    obtain rfl := hv0 her
    have hO : O = none := by rw [HT.out, if_pos (.inl her)]
    have HO := Lib.hid hO
    clear hO hv0 hv1
    go_wp2
    go_ret
    refine ⟨by rw [HO.out]; rfl, fun st' e => (by rw [HO.out] at e; cases e), ?_⟩
    exact TFr.of_below B2.out H.out.n0_le H.out.ex_lt
  · have t : ((ER : Int) != 0) = false := by rw [bne_eq_false_iff_eq]; omega
    obtain ⟨f, rfl, hfn⟩ := HF.out her
    obtain ⟨g, cap, rfl, hcell⟩ := frow_form (hv1 her)
    by_cases hev : st.evs = []
    rotate_left
    · have hlen : 0 < st.evs.length := List.length_pos_iff.2 hev
      have tl : decide ((0 : Int) < (st.evs.length : Int)) = true := decide_eq_true (by omega)
      have hO : O = none := by rw [HT.out, if_pos (.inr hev)]
      have HO := Lib.hid hO
      clear hO hv0 hv1 hcell
      go_wp2
      go_ret
      refine ⟨by rw [HO.out]; rfl, fun st' e => (by rw [HO.out] at e; cases e), ?_⟩
      exact TFr.of_below B2.out H.out.n0_le H.out.ex_lt
    · have hlen : st.evs.length = 0 := by rw [hev]; rfl
      have tl : decide ((0 : Int) < (st.evs.length : Int)) = false := decide_eq_false (by omega)
      have tl2 : decide (0 < st.evs.length) = false := decide_eq_false (by omega)
      have tl3 : ¬ 0 < st.evs.length := by omega
      have hO : O = some { st with sess := f.n } := by rw [HT.out, if_neg (by rintro (h | h); exact h her; exact h hev)]
      have HO := Lib.hid hO
      have c1 : w2.cell? ⟨g, 1, none⟩ = some (.int .u64 (f.n : Int)) := (hcell 0 f rfl).2.1
      have wn : IntKind.i64.wrap (f.n : Int) = (f.n : Int) := IntWalk.i64_in _ (by omega)
      have r1 := R2.out.c2
      have rf := R2.out.fz 2
      have hset := H.out.set_ses (k := (f.n : Int)) B2.out
      have HS := Lib.hid hset
      clear hO hv0 hv1 hcell hset hev hlen
      simp only [List.length_cons, List.length_nil, Nat.zero_add] at *
      go_wp2
      go_ret
      exact ⟨by rw [HO.out]; rfl, fun st' e => (by rw [HO.out] at e; cases Option.some.inj e; exact HS.out.1), HS.out.2⟩
theorem grow_t {w' : World} {o : Obj} (h : RdIs w n0 ex r st vt ve ks ds) (hg : (w.alloc o).drew.grownBy w' vt.ownBlock) : w'.cell? ⟨r, 0, none⟩ = some vt ∧ w'.frozen? ⟨r, 0, none⟩ = false := by
  have h' : RdIs (w.alloc o).drew n0 ex r st vt ve ks ds := h.below ((Below.refl _ _).alloc (Nat.le_refl _) _).drew
  have hr := (chg_grow hg).block r h'.lt (by simpa using h.at')
  exact ⟨(World.cell?_of_block (w := (w.alloc o).drew) (a := ⟨r, 0, none⟩) hr).trans h'.c0, (World.frozen?_of_block (w := (w.alloc o).drew) (a := ⟨r, 0, none⟩) hr).trans (h'.fz 0)⟩
set_option maxRecDepth 100000 in
set_option maxHeartbeats 8000000 in
theorem take_ten (x : ByteArray) (hp : Plainly x) (hs : x.size ≤ 100000) (h1 : first (words (L x)) = wTen) (hn : st.tens.length + 1 ≤ 1000000) (h : RdIs w n0 ex r st vt ve ks ds) :
    Calls Try.prog 70 #[.pointer (some ⟨r, 0, none⟩), .string x] w (TakePost st (takeOf st (L x)) n0 ex r w) := by
  have H := Lib.hid h
  have ht : takeOf st (L x) = (if checkOf (words (L x)) wTen [116, 98] ≠ 0 ∨ st.evs ≠ [] then none
     else match fieldsOf (words (L x)) [116, 98] with
       | [f, g] => some { st with tens := st.tens ++ [⟨S f.text, g.data⟩] }
       | _ => none) := by
    unfold takeOf
    rw [if_neg (plainly_take hp), if_pos h1]
    rfl
  generalize takeOf st (L x) = O at *
  obtain ⟨hx, hc⟩ := hp
  obtain ⟨e1, e2⟩ := empty_no x hx
  have hcn : (((x[0]'hx).toNat : Int) == 35) = false := by
    rw [beq_eq_false_iff_ne]
    intro e
    apply hc
    apply UInt8.toNat_inj.1
    show (x[0]'hx).toNat = 35
    omega
  have ix : ∀ W, (Instr.index 9 (.string x) (.int .i64 0)).run Try.prog W = .ok (.int .u8 ((x[0]'hx).toNat : Int)) W := fun W => by go_simp
  generalize (x[0]'hx).toNat = c0 at *
  have hwd := Lib.hid (fun W => word_any x W (by omega))
  have hlr := Lib.hid (fun W => lineread_any x (S wTen) (S [116, 98]) W (by omega) (by show [116, 98].toArray.size ≤ _; simp) (by intro c hc; have : c ∈ [116, 98] := hc; simp at this; rcases this with rfl | rfl <;> rfl))
  rw [first_eq, h1] at hwd
  rw [show L (S wTen) = wTen from rfl, show L (S [116, 98]) = [116, 98] from rfl] at hlr
  have t1 : ((S wTen).toList == [116, 101, 110, 97, 110, 116]) = true := str_eq _ _ rfl
  have hf1 := fields2 (L x) wTen
  generalize checkOf (words (L x)) wTen [116, 98] = ER at *
  generalize fieldsOf (words (L x)) [116, 98] = FS at *
  have HT := Lib.hid ht
  have HF := Lib.hid hf1
  clear h h1 ht hc hf1
  generalize S wTen = y at *
  rw [show S [116, 98] = ⟨#[116, 98]⟩ from rfl] at hlr
  obtain ⟨ae, ce, hve⟩ := own_form H.out.oe
  subst hve
  obtain ⟨at1, ct, hvt⟩ := own_form H.out.ot
  subst hvt
  obtain ⟨i0, hi, hz0, hz1, hz2⟩ := info_parts info67
  go_enter Try.func70, Try.ntmps70
  go_wp2_with fail
  refine (hwd.out _).mono ?_
  rintro e w1 ⟨rfl, hb1⟩
  have B1 := Lib.hid hb1
  clear hb1
  go_wp2_with fail
  refine (hlr.out _).mono ?_
  rintro e w2 ⟨v, rfl, hb2, hv0, hv1⟩
  have B2 := Lib.hid (bt B1.out hb2)
  have hs1 := B1.out.size
  have R2 := Lib.hid (H.out.below B2.out)
  have r3 := R2.out.c3
  clear hb2
  by_cases her : ER = 0
  rotate_left
  · have t : ((ER : Int) != 0) = true := by rw [bne_iff_ne]; omega
    obtain rfl := hv0 her
    have hO : O = none := by rw [HT.out, if_pos (.inl her)]
    have HO := Lib.hid hO
    clear hO hv0 hv1
    go_wp2
    go_ret
    refine ⟨by rw [HO.out]; rfl, fun st' e => (by rw [HO.out] at e; cases e), ?_⟩
    exact TFr.of_below B2.out H.out.n0_le H.out.ex_lt
  · have t : ((ER : Int) != 0) = false := by rw [bne_eq_false_iff_eq]; omega
    obtain ⟨f, f2, rfl, hfn⟩ := HF.out her
    obtain ⟨g, cap, rfl, hcell⟩ := frow_form (hv1 her)
    by_cases hev : st.evs = []
    rotate_left
    · have hlen : 0 < st.evs.length := List.length_pos_iff.2 hev
      have tl : decide ((0 : Int) < (st.evs.length : Int)) = true := decide_eq_true (by omega)
      have hO : O = none := by rw [HT.out, if_pos (.inr hev)]
      have HO := Lib.hid hO
      clear hO hv0 hv1 hcell
      go_wp2
      go_ret
      refine ⟨by rw [HO.out]; rfl, fun st' e => (by rw [HO.out] at e; cases e), ?_⟩
      exact TFr.of_below B2.out H.out.n0_le H.out.ex_lt
    · have hlen : st.evs.length = 0 := by rw [hev]; rfl
      have tl : decide ((0 : Int) < (st.evs.length : Int)) = false := decide_eq_false (by omega)
      have tl2 : decide (0 < st.evs.length) = false := decide_eq_false (by omega)
      have tl3 : ¬ 0 < st.evs.length := by omega
      have hO : O = some { st with tens := st.tens ++ [⟨S f.text, f2.data⟩] } := by rw [HT.out, if_neg (by rintro (h | h); exact h her; exact h hev)]
      have HO := Lib.hid hO
      have q0 : w2.cell? ⟨g, 0, none⟩ = some (.string (S f.text)) := (hcell 0 f rfl).1
      obtain ⟨kv, q5, hkr, hko⟩ := (hcell 1 f2 rfl).2.2
      obtain ⟨ak, ck, rfl⟩ := crow_form hkr
      simp only [Nat.reduceMul, Nat.reduceAdd] at q5
      have HK := Lib.hid (And.intro hkr hko)
      have r0 := R2.out.c0
      have rl : r < w2.heap.size := R2.out.lt
      clear hO hv0 hv1 hcell hev hlen hkr hko
      simp only [List.length_cons, List.length_nil, Nat.zero_add, Nat.reduceAdd] at *
      generalize hnm : S f.text = nm at *
      go_wp2_with fail
      go_region_law (refine step_append_one (by rfl) (.tmp 77) (.tmp 87) 68 67 (by rfl) n0 i0 _ 2 40 Try.underlying68 hi hz0 hz1 hz2 rfl (by decide) _ st.tens.length (flatT st.tens ks) (by rfl) (by exact World.ownsRow.alloc R2.out.ot _) ⟨_, 0, none⟩ [.string nm, .slice ak f2.data.length ck] (by rfl) rfl (by exact newN _ _ _ _ rfl) (by simp [Value.oneCell']) hn (by decide) (by have := R2.out.n0_le; simp; omega) ?_; intro g' cap' w5 hown5 hgrow5 hat5; have y0 := (grow_t R2.out hgrow5).1; have y1 := (grow_t R2.out hgrow5).2)
      all_goals
        have hpush := H.out.push_ten (t := ⟨nm, f2.data⟩) (bt B2.out ((Below.refl _ _).alloc (Nat.le_refl _) _).drew) hown5 hgrow5 hat5 (crow_below HK.out.1 ((Below.refl _ _).alloc (Nat.le_refl _) _).drew) (fun b hb => HK.out.2 b (by omega))
        have HPU := Lib.hid hpush
        clear hpush hown5 hgrow5 hat5
        go_wp2
        go_ret
        exact ⟨by rw [HO.out]; rfl, fun st' e => (by rw [HO.out] at e; cases Option.some.inj e; exact HPU.out.1), HPU.out.2⟩
/-- The reader's take, of any line. -/
theorem take_any (x : ByteArray) (hs : x.size ≤ 100000) (hn : st.tens.length + 1 ≤ 1000000) (hm : st.evs.length + 1 ≤ 1000000) (h : RdIs w n0 ex r st vt ve ks ds) :
    Calls Try.prog 70 #[.pointer (some ⟨r, 0, none⟩), .string x] w (TakePost st (takeOf st (L x)) n0 ex r w) := by
  by_cases hx : 0 < x.size
  · by_cases hc : (x[0]'hx) = 35
    · exact take_note x hx hc h
    · have hp : Plainly x := ⟨hx, hc⟩
      by_cases h1 : first (words (L x)) = wTen
      · exact take_ten x hp hs h1 hn h
      · by_cases h2 : first (words (L x)) = wCap
        · exact take_cap x hp hs h2 h
        · by_cases h3 : first (words (L x)) = wSes
          · exact take_ses x hp hs h3 h
          · exact take_ev x hp hs h1 h2 h3 hm h
  · have e : x = ⟨#[]⟩ := by
      have : L x = [] := List.length_eq_zero_iff.1 (by rw [L_len]; omega)
      rw [← S_L x, this]
    subst e
    exact take_empty h
end
end Go.Proofs.Ytinabbdecmjcpaa.Script
