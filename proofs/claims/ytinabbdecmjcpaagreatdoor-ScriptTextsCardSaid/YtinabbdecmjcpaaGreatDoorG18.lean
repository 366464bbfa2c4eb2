/- Scripts as lines, plainly: the lines of a script, and that they are read as that script; where a line that is none errs. No program in sight. What Read may answer, plainly: one thing alone; and that an event of a line fits. -/
import Derived.Test.YtinabbdecmjcpaaGreatDoorG15
import Derived.Test.YtinabbdecmjcpaaGreatDoorGReadA
import Derived.Test.YtinabbdecmjcpaaGreatDoorGEvPrint
namespace Go.Proofs.YtinabbdecmjcpaaGreatDoor.Script
open Go.Proofs.YtinabbdecmjcpaaGreatDoor Go.Proofs.YtinabbdecmjcpaaGreatDoor.Plain Go.Proofs.YtinabbdecmjcpaaGreatDoor.Named Go.Proofs.YtinabbdecmjcpaaGreatDoor.Number Go.Proofs.YtinabbdecmjcpaaGreatDoor.Ev
open Go.Lib (decDigits)
set_option linter.unusedVariables false

def tenL (t : Ten) : List UInt8 := wTen ++ 32 :: (L t.name ++ 32 :: hexOf t.key)
def capL (n : Nat) : List UInt8 := wCap ++ 32 :: decDigits n
def sesL (n : Nat) : List UInt8 := wSes ++ 32 :: decDigits n
def evL (e : Ev) : List UInt8 := (printOf e).getD []
/-- The lines of a script. -/
def linesL (ts : List Ten) (cap sess : Nat) (es : List Ev) : List (List UInt8) := ts.map tenL ++ [capL cap, sesL sess] ++ es.map evL

/-! ### Words -/
theorem good_dec (n : Nat) : Ev.Good (decDigits n) := by
  refine ⟨dec_ne n, fun c hc => ?_⟩
  have h := digs_dec n
  unfold digs at h
  rw [List.all_eq_true] at h
  have := digit_bd (h c hc)
  omega
theorem good_named (l : List UInt8) (h : namedB 16 smallB lowB l = true) : Ev.Good l := by
  unfold namedB at h
  simp only [Bool.and_eq_true, decide_eq_true_eq] at h
  obtain ⟨⟨⟨h1, _⟩, h2⟩, _⟩ := h
  refine ⟨fun e => by rw [e] at h1; simp at h1, fun c hc => ?_⟩
  rw [List.all_eq_true] at h2
  have := h2 c hc
  simp [smallB, lowB, digitB] at this
  omega
theorem good_hex (l : List UInt8) : Ev.Good (hexOf l) := by
  unfold hexOf
  split
  · exact ⟨by simp, fun c hc => by simp at hc; subst hc; decide⟩
  · rename_i hn
    refine ⟨fun e => ?_, fun c hc => ?_⟩
    · have := congrArg List.length e
      rw [hexs_len] at this
      exact hn (List.length_eq_zero_iff.1 (by simp at this; omega))
    · unfold hexs at hc
      rw [List.mem_flatMap] at hc
      obtain ⟨d, _, hc⟩ := hc
      have hd := d.toNat_lt
      unfold two at hc
      simp at hc
      rcases hc with rfl | rfl
      · rw [sg_toNat _ (by omega)]; split <;> omega
      · rw [sg_toNat _ (by omega)]; split <;> omega
theorem no10_good (w : List UInt8) (h : Ev.Good w) : 10 ∉ w := fun hc => by
  have := h.2 10 hc
  exact absurd this (by decide)
theorem no10_join : ∀ (ws : List (List UInt8)), (∀ x ∈ ws, Ev.Good x) → 10 ∉ join ws
  | [], _ => by simp [join]
  | [w], h => no10_good w (h w (by simp))
  | w :: x :: ws, h => by
    rw [join_cons]
    simp only [List.mem_append, List.mem_cons, not_or]
    exact ⟨no10_good w (h w (by simp)), by decide, no10_join (x :: ws) (fun y hy => h y (by simp only [List.mem_cons] at hy ⊢; exact .inr hy))⟩
theorem good_wTen : Ev.Good wTen := ⟨by decide, by decide⟩
theorem good_wCap : Ev.Good wCap := ⟨by decide, by decide⟩
theorem good_wSes : Ev.Good wSes := ⟨by decide, by decide⟩
theorem tenL_good (t : Ten) (h : namedB 16 smallB lowB (L t.name) = true) : ∀ x ∈ [wTen, L t.name, hexOf t.key], Ev.Good x := fun x hx => by
  simp at hx
  rcases hx with rfl | rfl | rfl
  · exact good_wTen
  · exact good_named _ h
  · exact good_hex _
theorem words_ten (t : Ten) (h : namedB 16 smallB lowB (L t.name) = true) : words (tenL t) = some [wTen, L t.name, hexOf t.key] := words_join wTen [L t.name, hexOf t.key] (tenL_good t h)
theorem words_cap (n : Nat) : words (capL n) = some [wCap, decDigits n] := words_join wCap [decDigits n] (fun x hx => by
  simp at hx
  rcases hx with rfl | rfl
  · exact good_wCap
  · exact good_dec n)
theorem words_ses (n : Nat) : words (sesL n) = some [wSes, decDigits n] := words_join wSes [decDigits n] (fun x hx => by
  simp at hx
  rcases hx with rfl | rfl
  · exact good_wSes
  · exact good_dec n)
theorem no10_ten (t : Ten) (h : namedB 16 smallB lowB (L t.name) = true) : 10 ∉ tenL t := no10_join [wTen, L t.name, hexOf t.key] (tenL_good t h)
theorem no10_words (l : List UInt8) (ws : List (List UInt8)) (h : words l = some ws) : 10 ∉ l := by
  obtain ⟨h1, h2⟩ := words_back l ws h
  rw [← h1]
  exact no10_join ws h2

/-! ### What a line does -/
theorem head_not (l : List UInt8) (w : List UInt8) (hw : w.head? ≠ some 35) (hn : w ≠ []) (r : List UInt8) (h : l = w ++ r) : ¬ (l = [] ∨ l.head? = some 35) := by
  subst h
  cases w with
  | nil => exact absurd rfl hn
  | cons c w => simpa using hw
theorem take_tenL (st : Rd) (t : Ten) (h : namedB 16 smallB lowB (L t.name) = true) (he : st.evs = []) : takeOf st (tenL t) = some { st with tens := st.tens ++ [t] } := by
  have hb : bytesOf (hexOf t.key) = some t.key := bytesOf_hexOf _
  have r1 : readF 116 (L t.name) = (⟨L t.name, 0, []⟩, 0) := by unfold readF; rw [if_pos rfl, if_pos h]
  have r2 : readF 98 (hexOf t.key) = (⟨[], 0, t.key⟩, 0) := by
    unfold readF
    rw [if_neg (by decide), if_neg (by decide), if_pos rfl, hb]
  unfold takeOf
  rw [if_neg (head_not (tenL t) wTen (by decide) (by decide) _ rfl), words_ten t h]
  rw [if_pos (show first (some [wTen, L t.name, hexOf t.key]) = wTen from rfl)]
  have hc : checkOf (some [wTen, L t.name, hexOf t.key]) wTen [116, 98] = 0 := by
    unfold checkOf
    simp only
    rw [if_neg (by simp)]
    simp [signs, signErr, r1, r2]
  rw [if_neg (by rw [hc, he]; simp)]
  show some _ = _
  simp only [r1, r2, S_L]
theorem take_num (n : Nat) (hn : n ≤ 2147483647) : readF 115 (decDigits n) = (⟨[], n, []⟩, 0) := by
  unfold readF
  rw [if_neg (by decide), if_neg (by decide), if_neg (by decide), if_neg (by decide), if_pos rfl, num_dec n (by omega), if_neg (by simp; omega)]
theorem take_capL (st : Rd) (n : Nat) (hn : n ≤ 2147483647) (he : st.evs = []) : takeOf st (capL n) = some { st with cap := n } := by
  have r1 := take_num n hn
  unfold takeOf
  rw [if_neg (head_not (capL n) wCap (by decide) (by decide) _ rfl), words_cap n]
  rw [if_neg (show first (some [wCap, decDigits n]) ≠ wTen by show wCap ≠ wTen; decide), if_pos (show first (some [wCap, decDigits n]) = wCap from rfl)]
  have hc : checkOf (some [wCap, decDigits n]) wCap [115] = 0 := by
    unfold checkOf
    simp only
    rw [if_neg (by simp)]
    simp [signs, signErr, r1]
  rw [if_neg (by rw [hc, he]; simp)]
  simp only [fieldsOf, List.tail, fields, r1]
theorem take_sesL (st : Rd) (n : Nat) (hn : n ≤ 2147483647) (he : st.evs = []) : takeOf st (sesL n) = some { st with sess := n } := by
  have r1 := take_num n hn
  unfold takeOf
  rw [if_neg (head_not (sesL n) wSes (by decide) (by decide) _ rfl), words_ses n]
  rw [if_neg (show first (some [wSes, decDigits n]) ≠ wTen by show wSes ≠ wTen; decide), if_neg (show first (some [wSes, decDigits n]) ≠ wCap by show wSes ≠ wCap; decide), if_pos (show first (some [wSes, decDigits n]) = wSes from rfl)]
  have hc : checkOf (some [wSes, decDigits n]) wSes [115] = 0 := by
    unfold checkOf
    simp only
    rw [if_neg (by simp)]
    simp [signs, signErr, r1]
  rw [if_neg (by rw [hc, he]; simp)]
  simp only [fieldsOf, List.tail, fields, r1]
theorem word_head : ∀ k : Fin 16, 1 ≤ k.val → (wordN k.val).head? ≠ some 35 ∧ wordN k.val ≠ [] := by decide +kernel
theorem take_evL (st : Rd) (e : Ev) (l : List UInt8) (hp : parseOf l = (e, 0)) : takeOf st l = some { st with evs := st.evs ++ [e] } := by
  have hk : kindOf (first (words l)) ≠ 0 := fun h => by
    unfold parseOf at hp
    rw [if_pos h] at hp
    cases hp
  have hc : checkOf (words l) (wordN (kindOf (first (words l)))) (patN (kindOf (first (words l)))) = 0 := by
    cases hx : checkOf (words l) (wordN (kindOf (first (words l)))) (patN (kindOf (first (words l)))) with
    | zero => rfl
    | succ n =>
      unfold parseOf at hp
      rw [if_neg hk, if_pos (by rw [hx]; simp), hx] at hp
      cases hp
  obtain ⟨xs, hw, _⟩ := check_zero _ _ _ hc
  have hj := (words_back l _ hw).1
  have hle := kindOf_le (first (words l))
  have hwh := word_head ⟨kindOf (first (words l)), by omega⟩ (by show 1 ≤ kindOf (first (words l)); omega)
  have hd : ∃ r, l = wordN (kindOf (first (words l))) ++ r := by
    cases xs with
    | nil => exact ⟨[], by rw [List.append_nil]; exact hj.symm⟩
    | cons x xs => exact ⟨_, hj.symm⟩
  obtain ⟨r, hd⟩ := hd
  have n1 : first (words l) ≠ wTen := fun h => hk (by rw [h]; decide +kernel)
  have n2 : first (words l) ≠ wCap := fun h => hk (by rw [h]; decide +kernel)
  have n3 : first (words l) ≠ wSes := fun h => hk (by rw [h]; decide +kernel)
  unfold takeOf
  rw [if_neg (head_not l _ hwh.1 hwh.2 r hd), if_neg n1, if_neg n2, if_neg n3, hp, if_neg (by simp)]
def wWhat : List UInt8 := [119, 104, 97, 116]
theorem take_what (st : Rd) : takeOf st wWhat = none := by
  have hw : words wWhat = some [wWhat] := by decide +kernel
  have hp : (parseOf wWhat).2 = 5 := by decide +kernel
  unfold takeOf
  rw [hw]
  rw [if_neg (by decide), if_neg (by decide), if_neg (by decide), if_neg (by decide), if_pos (by rw [hp]; decide)]
theorem take_blank (st : Rd) (l : List UInt8) (h : l = [] ∨ l.head? = some 35) : takeOf st l = some st := by
  unfold takeOf
  rw [if_pos h]

/-! ### Lines, one behind the other -/
/-- A line with its end. -/
def lnS (l : List UInt8) : ByteArray := S (l ++ [10])
theorem lineOf_lnS (st : Rd) (l : List UInt8) : lineOf st (lnS l) = takeOf st l := by
  obtain ⟨h1, h2⟩ := ends_iff l
  unfold lineOf lnS
  rw [if_pos h1, h2]
/-- Lines, each with lines behind it. -/
def withB (ls : List (List UInt8)) (bs : List (List UInt8)) : List ByteArray := ls.flatMap fun l => lnS l :: bs.map lnS
theorem fold_blank : ∀ (bs : List (List UInt8)) (st : Rd), (∀ l ∈ bs, l = [] ∨ l.head? = some 35) → foldO (bs.map lnS) st = some st
  | [], st, _ => rfl
  | l :: bs, st, h => by
    simp only [List.map_cons, foldO, lineOf_lnS, take_blank st l (h l (by simp))]
    exact fold_blank bs st (fun x hx => h x (by simp [hx]))
theorem foldO_app : ∀ (xs ys : List ByteArray) (st : Rd), foldO (xs ++ ys) st = match foldO xs st with | none => none | some st' => foldO ys st'
  | [], ys, st => rfl
  | x :: xs, ys, st => by
    simp only [List.cons_append, foldO]
    cases lineOf st x with
    | none => rfl
    | some st' => exact foldO_app xs ys st'
theorem fold_cons (l : List UInt8) (ls bs : List (List UInt8)) (st st' : Rd) (h : takeOf st l = some st') (hb : ∀ l ∈ bs, l = [] ∨ l.head? = some 35) : foldO (withB (l :: ls) bs) st = foldO (withB ls bs) st' := by
  unfold withB
  rw [List.flatMap_cons, List.cons_append]
  simp only [foldO, lineOf_lnS, h]
  rw [foldO_app, fold_blank bs st' hb]
theorem withB_app (a b bs : List (List UInt8)) : withB (a ++ b) bs = withB a bs ++ withB b bs := by simp [withB]
theorem fold_tens (bs : List (List UInt8)) (hb : ∀ l ∈ bs, l = [] ∨ l.head? = some 35) : ∀ (ts : List Ten) (st : Rd), (∀ t ∈ ts, namedB 16 smallB lowB (L t.name) = true) → st.evs = [] → foldO (withB (ts.map tenL) bs) st = some { st with tens := st.tens ++ ts }
  | [], st, _, _ => by simp [withB, foldO]
  | t :: ts, st, h, he => by
    rw [List.map_cons, fold_cons _ _ _ _ _ (take_tenL st t (h t (by simp)) he) hb, fold_tens bs hb ts { st with tens := st.tens ++ [t] } (fun x hx => h x (by simp [hx])) he]
    simp
theorem fold_evs (bs : List (List UInt8)) (hb : ∀ l ∈ bs, l = [] ∨ l.head? = some 35) : ∀ (es : List Ev) (st : Rd), (∀ e ∈ es, Fits e ∧ (printOf e).isSome = true) → foldO (withB (es.map evL) bs) st = some { st with evs := st.evs ++ es }
  | [], st, _ => by simp [withB, foldO]
  | e :: es, st, h => by
    obtain ⟨hf, hp⟩ := h e (by simp)
    obtain ⟨l, hl⟩ := Option.isSome_iff_exists.1 hp
    have hev : evL e = l := by unfold evL; rw [hl]; rfl
    rw [List.map_cons, hev, fold_cons _ _ _ _ _ (take_evL st e l (parse_print e l hf hl)) hb, fold_evs bs hb es _ (fun x hx => h x (by simp [hx]))]
    simp
/-- The lines of a script are read as that script. -/
theorem fold_lines (bs : List (List UInt8)) (hb : ∀ l ∈ bs, l = [] ∨ l.head? = some 35) (ts : List Ten) (cap sess : Nat) (es : List Ev) (ht : ∀ t ∈ ts, namedB 16 smallB lowB (L t.name) = true) (hc : cap ≤ 2147483647) (hs : sess ≤ 2147483647) (he : ∀ e ∈ es, Fits e ∧ (printOf e).isSome = true) :
    foldO (withB (linesL ts cap sess es) bs) rd0 = some ⟨ts, cap, sess, es⟩ := by
  unfold linesL
  rw [withB_app, withB_app, foldO_app, foldO_app, fold_tens bs hb ts rd0 ht rfl]
  simp only
  rw [fold_cons _ _ _ _ _ (take_capL _ cap hc rfl) hb, fold_cons _ _ _ _ _ (take_sesL _ sess hs rfl) hb]
  show (match (some _ : Option Rd) with | none => none | some st' => foldO (withB (es.map evL) bs) st') = _
  simp only
  rw [fold_evs bs hb es _ he]
  simp [rd0]

/-! ### The text of lines -/
theorem lines_text (bs : List (List UInt8)) (hb : ∀ l ∈ bs, 10 ∉ l) : ∀ (ls : List (List UInt8)), (∀ l ∈ ls, 10 ∉ l) → linesOf (ls.flatMap fun l => l ++ 10 :: (bs.flatMap fun b => b ++ [10])) = (withB ls bs).map L
  | [], _ => rfl
  | l :: ls, h => by
    have step : ∀ (cs : List (List UInt8)) (r : List UInt8), (∀ l ∈ cs, 10 ∉ l) → linesOf ((cs.flatMap fun b => b ++ [10]) ++ r) = cs.map (fun b => b ++ [10]) ++ linesOf r := by
      intro cs
      induction cs with
      | nil => intro r _; rfl
      | cons c cs ih =>
        intro r hc
        rw [List.flatMap_cons, List.append_assoc, List.append_assoc]
        show linesOf (c ++ 10 :: ((cs.flatMap fun b => b ++ [10]) ++ r)) = _
        rw [lines_cut c _ (hc c (by simp)), ih r (fun x hx => hc x (by simp [hx]))]
        rfl
    rw [List.flatMap_cons, List.append_assoc, List.cons_append, lines_cut l _ (h l (by simp)), step bs _ hb, lines_text bs hb ls (fun x hx => h x (by simp [hx]))]
    unfold withB
    rw [List.flatMap_cons, List.map_append, List.map_cons, List.map_map]
    rfl
end Go.Proofs.YtinabbdecmjcpaaGreatDoor.Script

namespace Go.Proofs.YtinabbdecmjcpaaGreatDoor.Script
open Go.Proofs.YtinabbdecmjcpaaGreatDoor Go.Proofs.YtinabbdecmjcpaaGreatDoor.Plain Go.Proofs.YtinabbdecmjcpaaGreatDoor.Words Go.Proofs.YtinabbdecmjcpaaGreatDoor.Named Go.Proofs.YtinabbdecmjcpaaGreatDoor.Hex Go.Proofs.YtinabbdecmjcpaaGreatDoor.Number Go.Proofs.YtinabbdecmjcpaaGreatDoor.Ev
set_option linter.unusedVariables false

theorem L_inj {x y : ByteArray} (h : L x = L y) : x = y := by rw [← S_L x, h, S_L]
theorem mapL_inj : ∀ (xs ys : List ByteArray), xs.map L = ys.map L → xs = ys
  | [], [], _ => rfl
  | [], _ :: _, h => by simp at h
  | _ :: _, [], h => by simp at h
  | x :: xs, y :: ys, h => by
    simp only [List.map_cons, List.cons.injEq] at h
    rw [L_inj h.1, mapL_inj xs ys h.2]
theorem mapL_prefix (p xs : List ByteArray) (h : p.map L <+: xs.map L) : p <+: xs := by
  obtain ⟨t, ht⟩ := h
  have h1 : p.map L = (xs.take p.length).map L := by
    rw [List.map_take, ← ht, List.take_left' (by simp)]
  rw [mapL_inj _ _ h1]
  exact List.take_prefix _ _
theorem fold_pre (p r : List ByteArray) (st st' : Rd) (h : foldO (p ++ r) st = some st') : ∃ s1, foldO p st = some s1 ∧ foldO r s1 = some st' := by
  rw [foldO_app] at h
  cases hp : foldO p st with
  | none => rw [hp] at h; cases h
  | some s1 => rw [hp] at h; exact ⟨s1, rfl, h⟩
/-- A text that is a script's errs nowhere. -/
theorem no_err (l : List UInt8) (xs : List ByteArray) (st : Rd) (k : Nat) (hx : xs.map L = linesOf l) (hf : foldO xs rd0 = some st) (hc : checkS st.tens st.cap st.sess = 0) : ¬ ErrAt l k := by
  rintro (⟨p, x, s, hp, _, h1, h2⟩ | ⟨ys, s, hy, h1, h2, _⟩)
  · rw [← hx] at hp
    obtain ⟨r, rfl⟩ := mapL_prefix _ _ hp
    obtain ⟨s1, h3, _⟩ := fold_pre _ _ _ _ hf
    rw [foldO_snoc, h1] at h3
    simp only at h3
    rw [h2] at h3
    cases h3
  · rw [← hx] at hy
    rw [mapL_inj _ _ hy, hf] at h1
    cases h1
    exact h2 hc
/-- Where the first line lies that errs. -/
theorem err_at (l : List UInt8) (p r : List ByteArray) (x : ByteArray) (st : Rd) (hx : (p ++ x :: r).map L = linesOf l) (hf : foldO p rd0 = some st) (hn : lineOf st x = none) : (∀ k, ErrAt l k → k = p.length + 1) ∧ ∀ ys st', ys.map L = linesOf l → foldO ys rd0 ≠ some st' := by
  have hno : foldO (p ++ x :: r) rd0 = none := by
    rw [foldO_app, hf]
    simp only [foldO, hn]
  refine ⟨fun k hk => ?_, fun ys st' hy h => ?_⟩
  · rcases hk with ⟨q, y, s, hp, rfl, h1, h2⟩ | ⟨ys, s, hy, h1, _, _⟩
    · rw [← hx] at hp
      have hq := mapL_prefix _ _ hp
      by_cases hlt : q.length < p.length
      · exfalso
        have hqp : q ++ [y] <+: p := List.prefix_of_prefix_length_le hq (List.prefix_append p (x :: r)) (by simp; omega)
        obtain ⟨t, ht⟩ := hqp
        rw [← ht] at hf
        obtain ⟨s1, h3, _⟩ := fold_pre _ _ _ _ hf
        rw [foldO_snoc, h1] at h3
        simp only at h3
        rw [h2] at h3
        cases h3
      · by_cases hgt : p.length < q.length
        · exfalso
          have hpq : p ++ [x] <+: q := by
            refine List.prefix_of_prefix_length_le (l₃ := p ++ x :: r) ⟨r, by simp⟩ ((List.prefix_append q [y]).trans hq) (by simp; omega)
          obtain ⟨t, ht⟩ := hpq
          rw [← ht] at h1
          obtain ⟨s1, h3, _⟩ := fold_pre _ _ _ _ h1
          rw [foldO_snoc, hf] at h3
          simp only at h3
          rw [hn] at h3
          cases h3
        · omega
    · rw [← hx] at hy
      rw [mapL_inj _ _ hy, hno] at h1
      cases h1
  · rw [← hx] at hy
    rw [mapL_inj _ _ hy, hno] at h
    cases h

/-- Numbers and lengths of an event that was read. -/
structure FitsM (M : Nat) (e : Ev) : Prop where
  fits : Fits e
  tenant : e.tenant.size ≤ M
  data : e.data.length ≤ M
theorem num_lt (w : List UInt8) : (numOf w).2 = 0 → (numOf w).1 < 18446744073709551616 := fun h => (dec_num w (numOf w).1 (by rw [← h])).2
theorem put_fits (M : Nat) : ∀ (ss : List Slot) (xs : List (List UInt8)) (e : Ev), (∀ x ∈ xs, x.length ≤ M) → signs (ss.map sign) xs = 0 → FitsM M e → FitsM M (putF e ss (fields (ss.map sign) xs))
  | [], xs, e, _, _, h => by cases xs <;> exact h
  | s :: ss, [], e, _, _, h => h
  | s :: ss, x :: xs, e, hx, hs, h => by
    rw [List.map_cons] at hs
    obtain ⟨h1, h2⟩ := signs_cons _ _ _ _ hs
    show FitsM M (putF (setF e (readF (sign s) x).1 s) ss (fields (ss.map sign) xs))
    refine put_fits M ss xs _ (fun y hy => hx y (by simp [hy])) h2 ?_
    have hxl := hx x (by simp)
    cases s with
    | session => have := err_s x h1; rw [show sign .session = 115 from rfl, this.1]; exact ⟨⟨by show ((numOf x).1 : Int) ≤ _; omega, h.fits.stream, h.fits.m, h.fits.n, h.fits.bits⟩, h.tenant, h.data⟩
    | stream => have := err_s x h1; rw [show sign .stream = 115 from rfl, this.1]; exact ⟨⟨h.fits.session, by show ((numOf x).1 : Int) ≤ _; omega, h.fits.m, h.fits.n, h.fits.bits⟩, h.tenant, h.data⟩
    | m => have := err_s x h1; rw [show sign .m = 115 from rfl, this.1]; exact ⟨⟨h.fits.session, h.fits.stream, by show ((numOf x).1 : Int) ≤ _; omega, h.fits.n, h.fits.bits⟩, h.tenant, h.data⟩
    | tenant =>
      have := err_t x h1
      rw [show sign .tenant = 116 from rfl, this.1]
      exact ⟨⟨h.fits.session, h.fits.stream, h.fits.m, h.fits.n, h.fits.bits⟩, by show x.toArray.size ≤ M; simpa using hxl, h.data⟩
    | n =>
      have he : (numOf x).2 = 0 := by have := h1; rw [show sign .n = 110 from rfl] at this; unfold signErr at this; rw [err_n] at this; exact this
      rw [show sign .n = 110 from rfl, err_n]
      exact ⟨⟨h.fits.session, h.fits.stream, h.fits.m, num_lt x he, h.fits.bits⟩, h.tenant, h.data⟩
    | bits =>
      have he : (numOf x).2 = 0 := by have := h1; rw [show sign .bits = 110 from rfl] at this; unfold signErr at this; rw [err_n] at this; exact this
      rw [show sign .bits = 110 from rfl, err_n]
      exact ⟨⟨h.fits.session, h.fits.stream, h.fits.m, h.fits.n, num_lt x he⟩, h.tenant, h.data⟩
    | data =>
      obtain ⟨d, h3, h4⟩ := err_b x h1
      rw [show sign .data = 98 from rfl, h3]
      exact ⟨⟨h.fits.session, h.fits.stream, h.fits.m, h.fits.n, h.fits.bits⟩, h.tenant, Nat.le_trans (data_len x d h4) hxl⟩
theorem parse_fits (l : List UInt8) (e : Ev) (h : parseOf l = (e, 0)) : FitsM l.length e := by
  unfold parseOf at h
  split at h
  · cases h
  · split at h
    · rename_i hc; exact absurd (congrArg Prod.snd h) hc
    · rename_i hc
      have he := (congrArg Prod.fst h).symm
      simp only at he
      have hc0 : checkOf (words l) (wordN (kindOf (first (words l)))) (patN (kindOf (first (words l)))) = 0 := by simpa using hc
      obtain ⟨xs, hw, hl, hsg⟩ := check_zero _ _ _ hc0
      generalize kindOf (first (words l)) = k at *
      have hf : fieldsOf (words l) (patN k) = fields (patN k) xs := by rw [hw]; rfl
      rw [hf] at he
      rw [he]
      have hj := (words_back l _ hw).1
      refine put_fits l.length (slotsN k) xs (ev0 k) (fun x hx => ?_) hsg ⟨⟨by show (0 : Int) ≤ _; decide, by show (0 : Int) ≤ _; decide, by show (0 : Int) ≤ _; decide, by show 0 < _; decide, by show 0 < _; decide⟩, Nat.zero_le _, Nat.zero_le _⟩
      have := join_len (wordN k :: xs) x (by simp [hx])
      rw [hj] at this
      exact this
theorem fine_ok (M : Nat) (hM : M ≤ 1000000) (st : Rd) (h : Fine M st) : ∀ e ∈ st.evs, EvOk e ∧ (printOf e).isSome = true := fun e he => by
  obtain ⟨l, hp, hl⟩ := h.ev e he
  have hf := parse_fits l e hp
  refine ⟨⟨hf.fits, by have := hf.tenant; omega, by have := hf.data; omega⟩, ?_⟩
  rw [print_parse l e hp]
  rfl
end Go.Proofs.YtinabbdecmjcpaaGreatDoor.Script
