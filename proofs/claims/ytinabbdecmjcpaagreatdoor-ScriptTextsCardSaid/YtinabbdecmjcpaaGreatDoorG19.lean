/- A script's lines of which one is another one, plainly: where their text errs. No program in sight. What script's Text tells, plainly: its lines are read again, or are not. No program in sight. -/
import Derived.Test.YtinabbdecmjcpaaGreatDoorG18
import Derived.Test.YtinabbdecmjcpaaGreatDoorG21
import Derived.Test.YtinabbdecmjcpaaGreatDoorG02
namespace Go.Proofs.YtinabbdecmjcpaaGreatDoor.Script
open Go.Proofs.YtinabbdecmjcpaaGreatDoor Go.Proofs.YtinabbdecmjcpaaGreatDoor.Plain Go.Proofs.YtinabbdecmjcpaaGreatDoor.Words Go.Proofs.YtinabbdecmjcpaaGreatDoor.Named Go.Proofs.YtinabbdecmjcpaaGreatDoor.Hex Go.Proofs.YtinabbdecmjcpaaGreatDoor.Number Go.Proofs.YtinabbdecmjcpaaGreatDoor.Ev
open Go.Lib (decDigits)
set_option linter.unusedVariables false

/-! ### How long lines are -/
def sum1 (ws : List (List UInt8)) : Nat := (ws.map fun w => w.length + 1).sum
theorem join_sum : ∀ ws : List (List UInt8), (join ws).length ≤ sum1 ws
  | [] => by simp [join]
  | [w] => by simp [join, sum1]
  | w :: x :: ws => by
    have := join_sum (x :: ws)
    rw [join_cons, List.length_append, List.length_cons]
    show _ ≤ (w.length + 1) + sum1 (x :: ws)
    omega
def bnd (d : Nat) : Slot → Nat
  | .data => 2 * d + 2
  | _ => 101
theorem getT_bnd (e : Ev) (hf : Fits e) (ht : e.tenant.size ≤ 100) (h0 : 0 ≤ e.session) (h1 : 0 ≤ e.stream) (h2 : 0 ≤ e.m) (s : Slot) : (getT e s).length + 1 ≤ bnd e.data.length s := by
  have f0 := hf.session
  have f1 := hf.stream
  have f2 := hf.m
  cases s
  · have := dec_len e.session.toNat (by omega); show (decDigits e.session.toNat).length + 1 ≤ 101; omega
  · have := dec_len e.stream.toNat (by omega); show (decDigits e.stream.toNat).length + 1 ≤ 101; omega
  · have := dec_len e.m.toNat (by omega); show (decDigits e.m.toNat).length + 1 ≤ 101; omega
  · show (L e.tenant).length + 1 ≤ 101; rw [L_len]; omega
  · have := dec_len e.n hf.n; show (decDigits e.n).length + 1 ≤ 101; omega
  · have := dec_len e.bits hf.bits; show (decDigits e.bits).length + 1 ≤ 101; omega
  · show (hexOf e.data).length + 1 ≤ 2 * e.data.length + 2
    unfold hexOf
    split
    · simp
    · rw [hexs_len]; omega
theorem slots_sum (e : Ev) (hf : Fits e) (ht : e.tenant.size ≤ 100) (h0 : 0 ≤ e.session) (h1 : 0 ≤ e.stream) (h2 : 0 ≤ e.m) : ∀ ss : List Slot, sum1 (ss.map (getT e)) ≤ (ss.map (bnd e.data.length)).sum
  | [] => by simp [sum1]
  | s :: ss => by
    have := slots_sum e hf ht h0 h1 h2 ss
    have := getT_bnd e hf ht h0 h1 h2 s
    show ((getT e s).length + 1) + sum1 (ss.map (getT e)) ≤ bnd e.data.length s + (ss.map (bnd e.data.length)).sum
    omega
theorem slots_bnd (k d : Nat) : ((slotsN k).map (bnd d)).sum ≤ 303 + (2 * d + 2) := by
  unfold slotsN
  split <;> simp [bnd] <;> omega
theorem ev_len (e : Ev) (l : List UInt8) (hf : Fits e) (ht : e.tenant.size ≤ 100) (h : printOf e = some l) : l.length ≤ 400 + 2 * e.data.length := by
  obtain ⟨hr, h0, h1, h2, hb, hc, rfl⟩ := print_parts e l h
  obtain ⟨j, hj, j1, j2⟩ := inR_nat hr
  have hjn : e.kind.toNat = j := by omega
  obtain ⟨_, hw, _⟩ := word_ne j j1 j2
  unfold textOf
  rw [hjn]
  have a := join_sum (wordN j :: (slotsN j).map (getT e))
  have b : sum1 (wordN j :: (slotsN j).map (getT e)) = ((wordN j).length + 1) + sum1 ((slotsN j).map (getT e)) := by simp [sum1]
  have c := slots_sum e hf ht h0 h1 h2 (slotsN j)
  have d := slots_bnd j e.data.length
  omega
def dsum (es : List Ev) : Nat := (es.map fun e => e.data.length).sum
theorem lgAux_sum : ∀ (es : List Ev) (n : Nat), lgAux n es = false → n ≤ 5000 → n + dsum es ≤ 5000
  | [], n, _, hn => by simpa [dsum] using hn
  | f :: es, n, h, hn => by
    unfold lgAux at h
    split at h
    · cases h
    · have := lgAux_sum es _ h (by omega)
      show n + (f.data.length + dsum es) ≤ 5000
      omega
theorem large_sum (es : List Ev) (h : largeB es = false) : dsum es ≤ 5000 := by
  have hl := (large_small es h).1
  unfold largeB at h
  rw [Bool.or_eq_false_iff, List.take_of_length_le hl] at h
  have := lgAux_sum es 0 h.1 (by omega)
  omega
theorem evs_sum : ∀ es : List Ev, (∀ e ∈ es, Fits e ∧ e.tenant.size ≤ 100 ∧ (printOf e).isSome = true) → sum1 (es.map evL) ≤ 401 * es.length + 2 * dsum es
  | [], _ => by simp [sum1]
  | e :: es, h => by
    obtain ⟨hf, ht, hp⟩ := h e (by simp)
    obtain ⟨l, hl⟩ := Option.isSome_iff_exists.1 hp
    have h1 := ev_len e l hf ht hl
    have h2 := evs_sum es (fun x hx => h x (by simp [hx]))
    have hev : evL e = l := by unfold evL; rw [hl]; rfl
    show ((evL e).length + 1) + sum1 (es.map evL) ≤ 401 * (es.length + 1) + 2 * (e.data.length + dsum es)
    rw [hev]
    omega
theorem sum1_app (a b : List (List UInt8)) : sum1 (a ++ b) = sum1 a + sum1 b := by simp [sum1]
theorem sum1_set : ∀ (ls : List (List UInt8)) (i : Nat) (x : List UInt8), sum1 (ls.set i x) ≤ sum1 ls + (x.length + 1)
  | [], i, x => by simp [sum1]
  | l :: ls, 0, x => by
    show (x.length + 1) + sum1 ls ≤ ((l.length + 1) + sum1 ls) + (x.length + 1)
    omega
  | l :: ls, i + 1, x => by
    have := sum1_set ls i x
    show (l.length + 1) + sum1 (ls.set i x) ≤ ((l.length + 1) + sum1 ls) + (x.length + 1)
    omega
theorem text_sum : ∀ ls : List (List UInt8), (textL (ls.map S) []).length = sum1 ls
  | [] => rfl
  | l :: ls => by
    have := text_sum ls
    show ((L (S l) ++ [10]) ++ textL (ls.map S) []).length = (l.length + 1) + sum1 ls
    rw [List.length_append, this, List.length_append]
    rfl

/-! ### Where it errs -/
def ten0 : Ten := ⟨S [97], [107]⟩
theorem ten0_named : namedB 16 smallB lowB (L ten0.name) = true := by decide +kernel
theorem no10_ev (e : Ev) (hf : Fits e) (hp : (printOf e).isSome = true) : 10 ∉ evL e := by
  obtain ⟨l, hl⟩ := Option.isSome_iff_exists.1 hp
  have hev : evL e = l := by unfold evL; rw [hl]; rfl
  rw [hev]
  obtain ⟨hr, h0, h1, h2, hb, hc, rfl⟩ := print_parts e l hl
  obtain ⟨xs, hw, _⟩ := check_zero _ _ _ hc
  exact no10_words _ _ hw
theorem no10_lines (ts : List Ten) (cap sess : Nat) (es : List Ev) (ht : ∀ t ∈ ts, namedB 16 smallB lowB (L t.name) = true) (he : ∀ e ∈ es, Fits e ∧ (printOf e).isSome = true) : ∀ l ∈ linesL ts cap sess es, 10 ∉ l := fun l hl => by
  unfold linesL at hl
  rcases List.mem_append.1 hl with hl | hl
  · rcases List.mem_append.1 hl with hl | hl
    · obtain ⟨t, ht1, rfl⟩ := List.mem_map.1 hl
      exact no10_ten t (ht t ht1)
    · simp at hl
      rcases hl with rfl | rfl
      · exact no10_words _ _ (words_cap cap)
      · exact no10_words _ _ (words_ses sess)
  · obtain ⟨e, he1, rfl⟩ := List.mem_map.1 hl
    exact no10_ev e (he e he1).1 (he e he1).2
theorem withB_nil (ls : List (List UInt8)) : withB ls [] = ls.map lnS := by
  induction ls with
  | nil => rfl
  | cons l ls ih =>
    show lnS l :: withB ls [] = lnS l :: ls.map lnS
    rw [ih]
theorem textL_S (ls : List (List UInt8)) (b : List UInt8) : textL (ls.map S) b = ls.flatMap fun l => l ++ 10 :: b := by
  unfold textL
  rw [List.flatMap_map]
theorem err_text (ts : List Ten) (cap sess : Nat) (es : List Ev) (ht : ∀ t ∈ ts, namedB 16 smallB lowB (L t.name) = true) (hc : cap ≤ 2147483647) (hs : sess ≤ 2147483647) (he : ∀ e ∈ es, Fits e ∧ (printOf e).isSome = true) (i : Nat) (hi : i < (linesL ts cap sess es).length) :
    (∀ k, ErrAt (textL (((linesL ts cap sess es).set i wWhat).map S) []) k → k = i + 1) ∧ ∀ ys st', ys.map L = linesOf (textL (((linesL ts cap sess es).set i wWhat).map S) []) → foldO ys rd0 ≠ some st' := by
  have hf := fold_lines [] (by simp) ts cap sess es ht hc hs he
  have hn := no10_lines ts cap sess es ht he
  generalize linesL ts cap sess es = ls at *
  have hset : ls.set i wWhat = ls.take i ++ wWhat :: ls.drop (i + 1) := List.set_eq_take_append_cons_drop.trans (by rw [if_pos hi])
  have hlin : linesOf (textL ((ls.set i wWhat).map S) []) = ((ls.take i).map lnS ++ lnS wWhat :: (ls.drop (i + 1)).map lnS).map L := by
    rw [textL_S]
    have := lines_text [] (by simp) (ls.set i wWhat) (fun l hl => by
      rw [hset] at hl
      rcases List.mem_append.1 hl with hl | hl
      · exact hn l (List.mem_of_mem_take hl)
      · rcases List.mem_cons.1 hl with rfl | hl
        · decide
        · exact hn l (List.mem_of_mem_drop hl))
    rw [withB_nil, hset, List.map_append, List.map_cons] at this
    rw [hset]
    exact this
  rw [withB_nil, ← List.take_append_drop i ls, List.map_append] at hf
  obtain ⟨s1, h1, _⟩ := fold_pre _ _ _ _ hf
  have := err_at _ ((ls.take i).map lnS) ((ls.drop (i + 1)).map lnS) (lnS wWhat) s1 hlin.symm h1 (by rw [lineOf_lnS]; exact take_what s1)
  have hl : ((ls.take i).map lnS).length = i := by simp; omega
  rw [hl] at this
  exact this
end Go.Proofs.YtinabbdecmjcpaaGreatDoor.Script

namespace Go.Proofs.YtinabbdecmjcpaaGreatDoor.Script
open Go.Proofs.YtinabbdecmjcpaaGreatDoor Go.Proofs.YtinabbdecmjcpaaGreatDoor.Plain Go.Proofs.YtinabbdecmjcpaaGreatDoor.Words Go.Proofs.YtinabbdecmjcpaaGreatDoor.Named Go.Proofs.YtinabbdecmjcpaaGreatDoor.Hex Go.Proofs.YtinabbdecmjcpaaGreatDoor.Number Go.Proofs.YtinabbdecmjcpaaGreatDoor.Ev
open Go.Lib (decDigits)
set_option linter.unusedVariables false

theorem chkT_zero : ∀ (ts : List Ten) (pre : List (List UInt8)), chkT pre ts = 0 → ∀ t ∈ ts, namedB 16 smallB lowB (L t.name) = true ∧ 1 ≤ t.key.length ∧ t.key.length ≤ 32
  | [], _, _, t, h => by cases h
  | x :: ts, pre, h, t, ht => by
    unfold chkT at h
    split at h
    · cases h
    · rename_i h1
      split at h
      · cases h
      · split at h
        · cases h
        · rename_i h3
          rcases List.mem_cons.1 ht with rfl | ht
          · exact ⟨by simpa using h1, by omega, by omega⟩
          · exact chkT_zero ts _ h t ht
theorem checkS_zero (ts : List Ten) (cap sess : Int) (h : checkS ts cap sess = 0) : ts.length ≤ 8 ∧ (∀ t ∈ ts, namedB 16 smallB lowB (L t.name) = true ∧ 1 ≤ t.key.length ∧ t.key.length ≤ 32) ∧ 0 ≤ cap ∧ 0 ≤ sess := by
  unfold checkS at h
  split at h
  · rename_i h1; exact absurd h h1
  · rename_i h1
    split at h
    · cases h
    · rename_i h2
      have h1' : checkT ts = 0 := by simpa using h1
      unfold checkT at h1'
      split at h1'
      · cases h1'
      · rename_i h8
        exact ⟨by omega, chkT_zero ts [] h1', by omega, by omega⟩
def tenF (t : Ten) : List Fld := [⟨L t.name, 0, []⟩, ⟨[], 0, t.key⟩]
theorem tenF_line (t : Ten) : Ev.lineOf wTen [116, 98] (tenF t) = tenL t := rfl
theorem tenF_check (t : Ten) (h : namedB 16 smallB lowB (L t.name) = true) : checkOf (words (tenL t)) wTen [116, 98] = 0 := by
  rw [words_ten t h]
  show (if ([wTen, L t.name, hexOf t.key] : List (List UInt8)).length ≠ [116, 98].length + 1 ∨ ([wTen, L t.name, hexOf t.key] : List (List UInt8)).head? ≠ some wTen then 2 else signs [116, 98] [L t.name, hexOf t.key]) = 0
  rw [if_neg (by simp)]
  have a : signErr 116 (L t.name) = 0 := by
    unfold signErr readF
    simp [h]
  have b : signErr 98 (hexOf t.key) = 0 := by
    unfold signErr readF
    simp [bytesOf_hexOf]
  show (if signErr 116 (L t.name) ≠ 0 then _ else signs [98] [hexOf t.key]) = 0
  rw [if_neg (by rw [a]; simp)]
  show (if signErr 98 (hexOf t.key) ≠ 0 then _ else signs [] []) = 0
  rw [if_neg (by rw [b]; simp)]
  rfl
theorem num_line (wd : List UInt8) (n : Nat) (hw : words (wd ++ 32 :: decDigits n) = some [wd, decDigits n]) (hn : n < 18446744073709551616) : (checkOf (words (wd ++ 32 :: decDigits n)) wd [115] = 0) = (n ≤ 2147483647) := by
  rw [hw]
  have e : checkOf (some [wd, decDigits n]) wd [115] = signs [115] [decDigits n] := by
    show (if ([wd, decDigits n] : List (List UInt8)).length ≠ [115].length + 1 ∨ ([wd, decDigits n] : List (List UInt8)).head? ≠ some wd then 2 else signs [115] [decDigits n]) = _
    rw [if_neg (by simp)]
  rw [e]
  have s : signs [115] [decDigits n] = signErr 115 (decDigits n) := by
    show (if signErr 115 (decDigits n) ≠ 0 then signErr 115 (decDigits n) else signs [] []) = _
    split
    · rfl
    · rename_i h; have : signErr 115 (decDigits n) = 0 := by simpa using h
      rw [this]; rfl
  rw [s]
  apply propext
  constructor
  · intro h
    have := (err_s _ h).2.2
    rw [num_dec n hn] at this
    exact this
  · intro h
    unfold signErr
    rw [take_num n h]
theorem capF_line (n : Nat) : Ev.lineOf wCap [115] [⟨[], n, []⟩] = capL n := rfl
theorem sesF_line (n : Nat) : Ev.lineOf wSes [115] [⟨[], n, []⟩] = sesL n := rfl
theorem cap_check (n : Nat) (hn : n < 18446744073709551616) : (checkOf (words (capL n)) wCap [115] = 0) = (n ≤ 2147483647) := num_line wCap n (words_cap n) hn
theorem ses_check (n : Nat) (hn : n < 18446744073709551616) : (checkOf (words (sesL n)) wSes [115] = 0) = (n ≤ 2147483647) := num_line wSes n (words_ses n) hn

/-! ### How long pieces are -/
theorem tenL_len (t : Ten) (h : namedB 16 smallB lowB (L t.name) = true) (hk : t.key.length ≤ 32) (hs : t.name.size ≤ 16) : (tenL t).length ≤ 100 := by
  unfold tenL
  have hx : (hexOf t.key).length ≤ 65 := by
    unfold hexOf
    split
    · simp
    · rw [hexs_len]; omega
  have hn : (L t.name).length ≤ 16 := by rw [L_len]; exact hs
  have hw : wTen.length = 6 := rfl
  simp only [List.length_append, List.length_cons]
  omega
theorem capL_len (n : Nat) (hn : n < 18446744073709551616) : (capL n).length ≤ 100 := by
  have := dec_len n hn
  unfold capL
  have hw : wCap.length = 8 := rfl
  simp only [List.length_append, List.length_cons]
  omega
theorem sesL_len (n : Nat) (hn : n < 18446744073709551616) : (sesL n).length ≤ 100 := by
  have := dec_len n hn
  unfold sesL
  have hw : wSes.length = 8 := rfl
  simp only [List.length_append, List.length_cons]
  omega
theorem evL_len (e : Ev) (ok : EvOk e) : (evL e).length ≤ 100000000 := by
  unfold evL
  cases hp : printOf e with
  | none => simp
  | some l =>
    obtain ⟨hr, h0, h1, h2, _, _, rfl⟩ := print_parts e l hp
    exact text_len e ok h0 h1 h2 hr
/-- The text of lines, one behind the other. -/
def tx (ls : List (List UInt8)) : List UInt8 := textL (ls.map S) []
theorem tx_nil : tx [] = [] := rfl
theorem tx_snoc (ls : List (List UInt8)) (l : List UInt8) : tx (ls ++ [l]) = tx ls ++ (L (S l) ++ [10]) := by
  unfold tx
  rw [List.map_append]
  exact textL_snoc _ _ _
theorem tx_len (ls : List (List UInt8)) (l : List UInt8) : (tx (ls ++ [l])).length = (tx ls).length + l.length + 1 := by
  rw [tx_snoc, List.length_append, List.length_append]
  show (tx ls).length + (l.length + 1) = _
  omega
theorem take_map_snoc {α : Type} (f : α → List UInt8) (l : List α) (k : Nat) (h : k < l.length) : (l.take (k + 1)).map f = (l.take k).map f ++ [f l[k]] := by
  rw [take_snoc (List.getElem?_eq_getElem h), List.map_append]
  rfl
end Go.Proofs.YtinabbdecmjcpaaGreatDoor.Script
