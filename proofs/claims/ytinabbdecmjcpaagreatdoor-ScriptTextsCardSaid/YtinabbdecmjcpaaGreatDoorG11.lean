/- The contract of line's write: the word of a field, by a sign. The contract of line's Write: the line of fields, told just where it is read again. -/
import Derived.SevenTiedAt
import Derived.Test.YtinabbdecmjcpaaGreatDoorG02
import Derived.Test.YtinabbdecmjcpaaGreatDoorG07
import Derived.Test.YtinabbdecmjcpaaGreatDoorG23
namespace Go.Proofs.YtinabbdecmjcpaaGreatDoor.Ev
open Go.RowKit Go.Proofs.YtinabbdecmjcpaaGreatDoor Go.Proofs.YtinabbdecmjcpaaGreatDoor.Plain Go.Proofs.YtinabbdecmjcpaaGreatDoor.Words Go.Proofs.YtinabbdecmjcpaaGreatDoor.Named Go.Proofs.YtinabbdecmjcpaaGreatDoor.Hex Go.Proofs.YtinabbdecmjcpaaGreatDoor.Number
open Go.Lib (decDigits)
set_option linter.unusedVariables false

theorem tab_keep {w w' : World} (h : Tab w) (hb : Below w.heap.size w w') : Tab w' := Go.Joins.tab_stays (g := 1) (by kernel_rfl) h hb (Nat.le_refl _)

set_option maxRecDepth 100000 in
set_option maxHeartbeats 1000000 in
theorem lwrite_text (c : UInt8) (hc : c = 116 ∨ c = 104) (t : ByteArray) (n : Nat) (d : Value) (w : World) :
    Calls Tryz.prog 35 #[.int .i32 (c.toNat : Int), .agg #[.string t, .int .u64 (n : Int), d]] w fun e w' => e = .returned (.string t) ∧ Below w.heap.size w w' := by
  rcases hc with rfl | rfl
  · go_enter Tryz.func35, Tryz.ntmps35
    go_wp2
    go_ret
    exact ⟨rfl, (Below.refl _ _).alloc (Nat.le_refl _) _⟩
  · go_enter Tryz.func35, Tryz.ntmps35
    go_wp2
    go_ret
    exact ⟨rfl, (Below.refl _ _).alloc (Nat.le_refl _) _⟩
set_option maxRecDepth 100000 in
set_option maxHeartbeats 1000000 in
theorem lwrite_bytes (t : ByteArray) (n : Nat) (d : Value) (l : List UInt8) (w : World) (hd : BRow w d l) (hl : l.length ≤ 1000000000000) :
    Calls Tryz.prog 35 #[.int .i32 98, .agg #[.string t, .int .u64 (n : Int), d]] w fun e w' => e = .returned (.string (S (hexOf l))) ∧ Below w.heap.size w w' := by
  have ba : Below w.heap.size w (w.alloc (.cells #[.string t, .int .u64 (n : Int), d] 59)) := (Below.refl _ _).alloc (Nat.le_refl _) _
  have H := Lib.hid (hex_any l d (w.alloc (.cells #[.string t, .int .u64 (n : Int), d] 59)) hl (brow_below ba hd))
  have hz : (w.alloc (.cells #[.string t, .int .u64 (n : Int), d] 59)).heap.size = w.heap.size + 1 := by simp
  have HZ := Lib.hid hz
  have BA := Lib.hid ba
  obtain ⟨a, cap, rfl⟩ := brow_form hd
  clear hd ba hz
  go_enter Tryz.func35, Tryz.ntmps35
  go_wp2_with (go_at_call 52; refine H.out.mono ?_; rintro e w2 ⟨rfl, hb⟩)
  go_ret
  exact ⟨rfl, BA.out.trans (hb.mono (by rw [HZ.out]; omega))⟩
set_option maxRecDepth 100000 in
set_option maxHeartbeats 1000000 in
theorem lwrite_num (c : UInt8) (hc : c = 110 ∨ c = 115) (t : ByteArray) (n : Nat) (hn : n < 18446744073709551616) (d : Value) (w : World) (hT : Tab w) :
    Calls Tryz.prog 35 #[.int .i32 (c.toNat : Int), .agg #[.string t, .int .u64 (n : Int), d]] w fun e w' => e = .returned (.string (S (decDigits n))) ∧ Below w.heap.size w w' := by
  have ba : Below w.heap.size w (w.alloc (.cells #[.string t, .int .u64 (n : Int), d] 59)) := (Below.refl _ _).alloc (Nat.le_refl _) _
  have H := Lib.hid (digits_any n hn (w.alloc (.cells #[.string t, .int .u64 (n : Int), d] 59)) (tab_keep hT ba))
  have hz : (w.alloc (.cells #[.string t, .int .u64 (n : Int), d] 59)).heap.size = w.heap.size + 1 := by simp
  have HZ := Lib.hid hz
  have BA := Lib.hid ba
  clear hT ba hz
  rcases hc with rfl | rfl
  · go_enter Tryz.func35, Tryz.ntmps35
    go_wp2_with (go_at_call 53; refine H.out.mono ?_; rintro e w2 ⟨rfl, hb⟩)
    go_ret
    exact ⟨rfl, BA.out.trans (hb.mono (by rw [HZ.out]; omega))⟩
  · go_enter Tryz.func35, Tryz.ntmps35
    go_wp2_with (go_at_call 53; refine H.out.mono ?_; rintro e w2 ⟨rfl, hb⟩)
    go_ret
    exact ⟨rfl, BA.out.trans (hb.mono (by rw [HZ.out]; omega))⟩
/-- line's write, at any sign that is known. -/
theorem lwrite_any (c : UInt8) (hk : known c = true) (f : Fld) (hn : f.n < 18446744073709551616) (d : Value) (w : World) (hd : BRow w d f.data) (hl : f.data.length ≤ 1000000000000) (hT : Tab w) :
    Calls Tryz.prog 35 #[.int .i32 (c.toNat : Int), .agg #[.string (S f.text), .int .u64 (f.n : Int), d]] w fun e w' => e = .returned (.string (S (writeF c f))) ∧ Below w.heap.size w w' := by
  rcases known5 hk with rfl | rfl | rfl | rfl | rfl
  · exact lwrite_text 116 (.inl rfl) _ _ _ _
  · exact lwrite_text 104 (.inr rfl) _ _ _ _
  · exact lwrite_num 110 (.inl rfl) _ _ hn _ _ hT
  · exact lwrite_bytes _ _ _ _ _ hd hl
  · exact lwrite_num 115 (.inr rfl) _ _ hn _ _ hT
end Go.Proofs.YtinabbdecmjcpaaGreatDoor.Ev

namespace Go.Proofs.YtinabbdecmjcpaaGreatDoor.Ev
open Go.RowKit Go.Proofs.YtinabbdecmjcpaaGreatDoor Go.Proofs.YtinabbdecmjcpaaGreatDoor.Plain Go.Proofs.YtinabbdecmjcpaaGreatDoor.Words Go.Proofs.YtinabbdecmjcpaaGreatDoor.Named Go.Proofs.YtinabbdecmjcpaaGreatDoor.Hex Go.Proofs.YtinabbdecmjcpaaGreatDoor.Number
open Go.Lib (decDigits)
set_option linter.unusedVariables false

/-- Fields that lie in a row, wherever their bytes lie. -/
def FIn (w : World) (v : Value) (fs : List Fld) : Prop :=
  ∃ g cap, v = .slice (some ⟨g, 0, none⟩) fs.length cap ∧ g < w.heap.size ∧ ∀ (i : Nat) (f : Fld), fs[i]? = some f → ∃ d, w.cell? ⟨g, i * 3, none⟩ = some (.string (S f.text)) ∧ w.cell? ⟨g, i * 3 + 1, none⟩ = some (.int .u64 (f.n : Int)) ∧ w.cell? ⟨g, i * 3 + 2, none⟩ = some d ∧ BRow w d f.data
/-- The fields are no larger than this. -/
def Small (f : Fld) : Prop := f.text.length ≤ 10000000 ∧ f.data.length ≤ 10000000 ∧ f.n < 18446744073709551616
/-- The line when k fields have been written. -/
def lineK (wd p : List UInt8) (fs : List Fld) (k : Nat) : List UInt8 := join (wd :: writes (p.take k) (fs.take k))
theorem join_snoc : ∀ (ws : List (List UInt8)) (w x : List UInt8), join (w :: ws ++ [x]) = join (w :: ws) ++ 32 :: x
  | [], w, x => rfl
  | y :: ws, w, x => by
    show w ++ 32 :: join (y :: ws ++ [x]) = (w ++ 32 :: join (y :: ws)) ++ 32 :: x
    rw [join_snoc ws y x]
    simp
theorem writes_snoc : ∀ (p : List UInt8) (fs : List Fld) (c : UInt8) (f : Fld), p.length = fs.length → writes (p ++ [c]) (fs ++ [f]) = writes p fs ++ [writeF c f]
  | [], [], c, f, _ => rfl
  | [], _ :: _, c, f, h => by simp at h
  | _ :: _, [], c, f, h => by simp at h
  | d :: p, g :: fs, c, f, h => by
    show writeF d g :: writes (p ++ [c]) (fs ++ [f]) = _
    rw [writes_snoc p fs c f (by simpa using h)]
    rfl
theorem lineK_snoc (wd p : List UInt8) (fs : List Fld) (k : Nat) (c : UInt8) (f : Fld) (hc : p[k]? = some c) (hf : fs[k]? = some f) : lineK wd p fs (k + 1) = (lineK wd p fs k ++ [32]) ++ writeF c f := by
  have h1 := (List.getElem?_eq_some_iff.1 hc).1
  have h2 := (List.getElem?_eq_some_iff.1 hf).1
  unfold lineK
  rw [take_snoc hc, take_snoc hf, writes_snoc _ _ _ _ (by simp; omega), ← List.cons_append, join_snoc]
  simp
theorem writeF_len (c : UInt8) (f : Fld) (hs : Small f) : (writeF c f).length ≤ 20000001 := by
  unfold writeF
  obtain ⟨h1, h2, h3⟩ := hs
  split
  · omega
  · split
    · unfold hexOf
      split
      · simp
      · rw [hexs_len]; omega
    · have := dec_len f.n h3; omega
theorem lineK_len (wd p : List UInt8) (fs : List Fld) : ∀ (k : Nat), wd.length ≤ 1000 → p.length = fs.length → (∀ f ∈ fs, Small f) → k ≤ p.length → (lineK wd p fs k).length ≤ 1000 + k * 20000002
  | 0, hw, _, _, _ => by
    show (join (wd :: writes [] [])).length ≤ _
    show wd.length ≤ _
    omega
  | k + 1, hw, hl, hs, hk => by
    have ih := lineK_len wd p fs k hw hl hs (by omega)
    have e1 : p[k]? = some p[k] := List.getElem?_eq_getElem (by omega)
    have e2 : fs[k]? = some fs[k] := List.getElem?_eq_getElem (by omega)
    rw [lineK_snoc wd p fs k _ _ e1 e2]
    have := writeF_len p[k] fs[k] (hs _ (List.getElem_mem _))
    simp only [List.length_append, List.length_cons, List.length_nil]
    omega
def WritePost (er : Nat) (l : List UInt8) (w : World) (e : Ending) (w' : World) : Prop := e = .returned (.tuple #[.string (if er = 0 then S l else ⟨#[]⟩), .int .i64 (er : Int)]) ∧ Below w.heap.size w w'
/-- What the loop keeps. -/
def RelW (w : World) (K : Nat) (wd p : List UInt8) (fs : List Fld) (ps : ByteArray) (v a : Value) (wr : World) : Prop :=
  ∃ (pos g cap : Nat), pos ≤ ps.size ∧ a = .int .i64 (pos : Int) ∧ wr.heap[K]? = some (.stringIter ps pos) ∧ Below w.heap.size w wr ∧ v = .slice (some ⟨g, 0, none⟩) (lineK wd p fs pos).length cap ∧ BufX.Own wr w.heap.size 5 v (lineK wd p fs pos).length ((lineK wd p fs pos).map bv)
theorem own_form {w : World} {B : Nat} {e : TypeId} {v : Value} {n : Nat} {xs : List Value} (h : BufX.Own w B e v n xs) : ∃ g cap, v = .slice (some ⟨g, 0, none⟩) n cap := by
  obtain ⟨_, g, cap, _, _, rfl, _⟩ := h
  exact ⟨g, cap, rfl⟩
theorem own_ne {w : World} {B K : Nat} {e : TypeId} {v : Value} {n : Nat} {xs : List Value} {s : ByteArray} {p : Nat} (h : BufX.Own w B e v n xs) (hK : w.heap[K]? = some (.stringIter s p)) : v.ownBlock ≠ some K := by
  obtain ⟨_, g, cap, cur, fz, rfl, _, hg, _⟩ := h
  intro e
  have : g = K := by simpa [Value.ownBlock] using e
  subst this
  rw [hg] at hK
  cases hK
theorem own_grow {w w' W : World} {B : Nat} {e : TypeId} {v : Value} {n : Nat} {xs : List Value} (h : BufX.Own w B e v n xs) (hb : Below B W w) (hB : B ≤ w.heap.size) (hg : w.grownBy w' v.ownBlock) : Below B W w' :=
  hb.grown hg hB (fun k hk => (h.lt k hk).1)
theorem strCells_S (l : List UInt8) : Lib.strCells (S l) = l.map bv := rfl
theorem cells_L (s : ByteArray) : Lib.strCells s = (L s).map bv := rfl

theorem new1c (X : World) (K : Nat) (a : Value) (t : TypeId) (hK : K = X.heap.size) : ∀ j u, [a][j]? = some u → (X.alloc (.cells #[a] t)).cell? (Addr.add ⟨K, 0, none⟩ j) = some u := by
  subst hK
  intro j u h
  match j, h with
  | 0, h =>
    simp at h
    subst h
    exact World.cell?_alloc_at _ _ _ _ rfl
  | (j + 1), h => simp at h
set_option maxRecDepth 100000 in
set_option maxHeartbeats 4000000 in
theorem linewrite_any (wd ps : ByteArray) (v : Value) (fs : List Fld) (w : World) (hw : wd.size ≤ 1000) (hp : ps.size ≤ 3) (hk : ∀ c ∈ L ps, known c = true) (hlen : fs.length = ps.size) (hs : ∀ f ∈ fs, Small f) (hv : FIn w v fs) (hT : Tab w) :
    Calls Tryz.prog 18 #[.string wd, .string ps, v] w (WritePost (checkOf (words (lineOf (L wd) (L ps) fs)) (L wd) (L ps)) (lineOf (L wd) (L ps) fs) w) := by
  obtain ⟨g, cap, rfl, hg, hcl⟩ := hv
  obtain ⟨i0, hi, hz0, hz1, hz2⟩ := info_parts info5
  have HK : Hid (∀ j (h : j < ps.size), known (ps[j]'h) = true) := Lib.hid fun j h => hk _ (List.mem_of_getElem? (get_L ps j h))
  have HC := Lib.hid hcl
  have HT := Lib.hid hT
  have HS := Lib.hid hs
  have hll : ∀ k, k ≤ ps.size → (lineK (L wd) (L ps) fs k).length ≤ 1000 + k * 20000002 := fun k h => lineK_len _ _ _ k (by rw [L_len]; omega) (by rw [L_len, hlen]) hs (by rw [L_len]; omega)
  have HLL := Lib.hid hll
  have hrc := fun W => Tryz.utf8_RuneCountInString_ascii ps W (by omega) (fun j b hb => known_low (hk b (List.mem_of_getElem? hb)))
  have HRC := Lib.hid hrc
  have hcv0 := fun W : World => Lib.run_convert_string_bytes (P := Tryz.prog) W 9 42 5 wd (u := .string) Tryz.underlying9 Tryz.underlying42 Tryz.underlying5
  have t1 : ((ps.size : Int) != (fs.length : Int)) = false := by rw [bne_eq_false_iff_eq]; omega
  have HLEN := Lib.hid hlen
  clear hcl hT hs hll hrc hk hlen
  go_enter Tryz.func18, Tryz.ntmps18
  go_wp2_with (go_at_call 33; refine (HRC.out _).mono ?_; rintro e w' ⟨rfl, rfl⟩)
  have hb0 : Below w.heap.size w (w.iter ps ps.size) := (Below.refl _ _).alloc (Nat.le_refl _) _
  have hb2 : Below w.heap.size w (Lib.bytesWorld (w.iter ps ps.size) 5 wd) := hb0.trans (BufX.below_bytes.mono hb0.size)
  have ho2 : BufX.Own (Lib.bytesWorld (w.iter ps ps.size) 5 wd) w.heap.size 5 (.slice (some ⟨(w.iter ps ps.size).heap.size, 0, none⟩) wd.size (grownCap (w.iter ps ps.size) wd.size 0 5)) wd.size ((L wd).map bv) := by
    obtain ⟨q0, q1, q2, q3, q4, q5, q6, q7⟩ := BufX.own_bytes (w := w.iter ps ps.size) (e := 5) (s := wd) (by unfold maxLen; omega)
    exact ⟨q0, q1, q2, q3, q4, q5, Nat.le_trans hb0.size q6, q7⟩
  have HB2 := Lib.hid hb2
  have HO2 := Lib.hid ho2
  clear hb0 hb2 ho2 hcv0
  generalize Lib.bytesWorld (w.iter ps ps.size) 5 wd = W2 at *
  generalize grownCap (w.iter ps ps.size) wd.size 0 5 = c0 at *
  generalize (w.iter ps ps.size).heap.size = g0 at *
  obtain ⟨K, hK⟩ : ∃ K, K = W2.heap.size := ⟨_, rfl⟩
  go_loopw [8, 9] (fun v a wr => RelW w W2.heap.size (L wd) (L ps) fs ps v a wr) (fun _ _ wr => ps.size - wr.iterPos W2.heap.size)
  case atStart =>
    refine ⟨0, g0, c0, by omega, rfl, World.iter_heap W2 _ 0, HB2.out.alloc HB2.out.size _, ?_, ?_⟩
    · show _ = Value.slice _ (L wd).length _
      rw [L_len]
    · show BufX.Own _ _ _ _ (L wd).length ((L wd).map bv)
      rw [L_len]
      exact HO2.out.below ((Below.refl _ _).alloc (Nat.le_refl _) _)
  case round =>
    obtain ⟨pos, g1, c1, hps, rfl, hit, hbel, rfl, hown⟩ := hrel
    have hs2 := HB2.out.size
    have hpos0 := iterPos_of hit
    have HO := Lib.hid hown
    have HB := Lib.hid hbel
    have hKw := lt_of_block hit
    by_cases hpp : pos < ps.size
    · have hkn := HK.out pos hpp
      obtain ⟨W1, hnx, hit2, hch⟩ := next_chg (P := Tryz.prog) hpp hit (known_low hkn)
      have hf : fs[pos]? = some (fs[pos]'(by rw [HLEN.out]; exact hpp)) := List.getElem?_eq_getElem _
      have hstep := lineK_snoc (L wd) (L ps) fs pos _ _ (get_L ps pos hpp) hf
      have hsm := HS.out _ (List.mem_of_getElem? hf)
      have hwl := writeF_len (ps[pos]'hpp) _ hsm
      obtain ⟨d, k0, k1, k2, k3⟩ := HC.out pos _ hf
      have hbW : Below w.heap.size w W1 := hbel.trans (hch.below hbel.size (by simp; omega))
      have hownW : BufX.Own W1 w.heap.size 5 (.slice (some ⟨g1, 0, none⟩) (lineK (L wd) (L ps) fs pos).length c1) (lineK (L wd) (L ps) fs pos).length ((lineK (L wd) (L ps) fs pos).map bv) :=
        hown.keep (fun gg e => hch.block gg (hown.lt gg e).2 (by simp; rintro rfl; exact own_ne hown hit e))
      have hln := HLL.out pos (by omega)
      have hKN := Lib.hid (fun W => known_yes (ps[pos]'hpp) W hkn)
      have hLW := Lib.hid (fun W h1 h2 => lwrite_any (ps[pos]'hpp) hkn (fs[pos]'(by rw [HLEN.out]; exact hpp)) hsm.2.2 d W h1 (by have := hsm.2.1; omega) h2)
      generalize writeF (ps[pos]'hpp) (fs[pos]'(by rw [HLEN.out]; exact hpp)) = out at *
      generalize (fs[pos]'(by rw [HLEN.out]; exact hpp)) = fl at *
      obtain ⟨ftx, fn, fdt⟩ := fl
      simp only at k0 k1 k2 k3
      obtain ⟨ad, cd, rfl⟩ := brow_form k3
      have HSTEP := Lib.hid hstep
      have HBW := Lib.hid hbW
      have HOW := Lib.hid hownW
      have HK3 := Lib.hid k3
      have HCH := Lib.hid hch
      have HIT2 := Lib.hid hit2
      have HWL := Lib.hid hwl
      have HLN := Lib.hid hln
      have HKC := Lib.hid (And.intro k0 (And.intro k1 k2))
      have hsW := hbW.size
      have hKl := lt_of_block hit2
      clear hstep hbW hownW k3 hch hit2 hwl hln hit hown hbel hkn hf hsm k0 k1 k2
      generalize (ps[pos]'hpp).toNat = x at *
      generalize hLL : lineK (L wd) (L ps) fs pos = lk at *
      have i0' : (0 : Int) ≤ (pos : Int) := by omega
      have i1' : (pos : Int) < (fs.length : Int) := by have := HLEN.out; omega
      have wz : IntKind.i64.wrap ((pos : Int) + 1) = ((pos + 1 : Nat) : Int) := by rw [IntWalk.i64_in _ (by omega)]; omega
      have HLLK := Lib.hid hLL
      clear hLL
      go_wp2_with fail
      refine (hKN.out _).mono ?_
      rintro e w' ⟨rfl, rfl⟩
      go_wp2_with (first
        | (at_builtin; refine BufX.wpList_cells _ rfl _ _ 42 rfl w.heap.size 5 i0 Tryz.underlying42 hi hz0 hz1 hz2 _ _ _ rfl (HOW.out.below ((Below.refl _ _).alloc (Nat.le_refl _) _)) ⟨W1.heap.size, 0, none⟩ 1 1 [.int .u8 32] rfl rfl (new1c _ _ _ _ rfl) (fun u hu => by simp at hu; subst hu; rfl) (by have := HLN.out; unfold maxLen; omega) (by have := HLN.out; omega) (by simp; omega) ?_; intro v2 w2 hown2 hgr2; obtain ⟨g2, c2, rfl⟩ := own_form hown2; have hb2 := own_grow (HOW.out.below ((Below.refl _ _).alloc (Nat.le_refl _) _)) (HBW.out.alloc hsW _) (by simp; omega) hgr2; have q0 := (hb2.cell (p := ⟨g, pos * 3, none⟩) hg).trans HKC.out.1; have q1 := (hb2.cell (p := ⟨g, pos * 3 + 1, none⟩) hg).trans HKC.out.2.1; have q2 := (hb2.cell (p := ⟨g, pos * 3 + 2, none⟩) hg).trans HKC.out.2.2; have hs3 := hb2.size; have X2 := Lib.hid (And.intro hown2 (And.intro hgr2 hb2)); clear hown2 hgr2 hb2)
        | (go_at_call 35; refine (hLW.out _ (brow_below X2.out.2.2 HK3.out) (tab_keep HT.out X2.out.2.2)).mono ?_; rintro e w3 ⟨rfl, hb3⟩; have hs4 := hb3.size; have X3 := Lib.hid hb3; clear hb3)
        | (at_builtin; refine BufX.wpList_text _ rfl _ _ 42 9 rfl w.heap.size 5 i0 Tryz.underlying42 Tryz.underlying9 hi hz0 hz1 hz2 _ _ _ rfl (X2.out.1.below X3.out) _ rfl (by have h1 := HLN.out; have h2 := HWL.out; have h3 : (S out).size = out.length := rfl; unfold maxLen; omega) (by have h1 := HLN.out; have h2 := HWL.out; have h3 : (S out).size = out.length := rfl; omega) (by omega) ?_; intro v4 w4 hown4 hgr4; obtain ⟨g4, c4, rfl⟩ := own_form hown4; have X4 := Lib.hid (And.intro hown4 hgr4); clear hown4 hgr4))
      have hba : Below W1.heap.size W1 (W1.alloc (.cells #[.int .u8 32] 5)) := (Below.refl _ _).alloc (Nat.le_refl _) _
      have hna : BufX.Own (W1.alloc (.cells #[.int .u8 32] 5)) w.heap.size 5 (.slice (some ⟨g1, 0, none⟩) lk.length c1) lk.length (lk.map bv) := HOW.out.below hba
      have hita : (W1.alloc (.cells #[.int .u8 32] 5)).heap[W2.heap.size]? = some (.stringIter ps (pos + 1)) := (hba.block _ hKl).trans HIT2.out
      have hit2 : w2.heap[W2.heap.size]? = some (.stringIter ps (pos + 1)) := (X2.out.2.1.block _ (lt_of_block hita) (fun e => own_ne hna hita e.symm)).trans hita
      have hit3 : w3.heap[W2.heap.size]? = some (.stringIter ps (pos + 1)) := (X3.out.block _ (lt_of_block hit2)).trans hit2
      have hn3 := X2.out.1.below X3.out
      have hit4 : w4.heap[W2.heap.size]? = some (.stringIter ps (pos + 1)) := (X4.out.2.block _ (lt_of_block hit3) (fun e => own_ne hn3 hit3 e.symm)).trans hit3
      have hb3 : Below w.heap.size w w3 := X2.out.2.2.trans (X3.out.mono hs3)
      have hb4 := own_grow hn3 hb3 (by omega) X4.out.2
      have hl4 : (lineK (L wd) (L ps) fs (pos + 1)).length = lk.length + 1 + out.length := by
        rw [HSTEP.out]
        simp; omega
      have ho4 : BufX.Own w4 w.heap.size 5 (.slice (some ⟨g4, 0, none⟩) (lk.length + 1 + out.length) c4) (lk.length + 1 + out.length) ((lineK (L wd) (L ps) fs (pos + 1)).map bv) := by
        rw [HSTEP.out]
        have := X4.out.1
        rw [strCells_S, show (S out).size = out.length from rfl] at this
        simpa [bv] using this
      rw [← hl4] at ho4 ⊢
      have HL4 := Lib.hid hl4
      clear hba hna hita hit2 hit3 hn3 hb3 hl4
      go_roundw
      case rel => exact ⟨pos + 1, g4, c4, by omega, by go_num, hit4, hb4, rfl, ho4⟩
      case measure => rw [iterPos_of hit4, hpos0]; omega
    · obtain rfl : pos = ps.size := by omega
      have hnx : ∀ ty, (Instr.next (.pointer (some ⟨W2.heap.size, 0, none⟩)) true ty).run Tryz.prog wr = _ := fun ty => Lib.run_next_end_at wr W2.heap.size ps ps.size ty hit hpp
      have hle : lineK (L wd) (L ps) fs ps.size = lineOf (L wd) (L ps) fs := by
        unfold lineK lineOf
        rw [List.take_of_length_le (by rw [L_len]; omega), List.take_of_length_le (by rw [HLEN.out]; omega)]
      have hln := HLL.out ps.size (by omega)
      rw [hle] at hln hown ⊢
      generalize hlo : lineOf (L wd) (L ps) fs = lo at *
      have hcv : (convert 42 9 (.slice (some ⟨g1, 0, none⟩) lo.length c1)).run Tryz.prog wr = .ok (.string ⟨lo.toArray⟩) wr :=
        run_convert_bytes_back (P := Tryz.prog) wr 42 9 5 ⟨g1, 0, none⟩ c1 lo Tryz.underlying42 Tryz.underlying5 Tryz.underlying9 (fun j hj => by
          rw [addr_add, Nat.zero_add]
          exact hown.cells rfl j _ (by simp [hj, bv]))
      have HR := Lib.hid (lineread_any (S lo) wd ps wr (by show lo.toArray.size ≤ _; simp; omega) (by omega) (fun c hc => by
        obtain ⟨j, hj, rfl⟩ := List.getElem_of_mem hc
        exact HK.out j (by rw [L_len] at hj; exact hj)))
      rw [show L (S lo) = lo from rfl] at HR
      have HBB := Lib.hid hbel
      generalize fieldsOf (words lo) (L ps) = FS at *
      generalize checkOf (words lo) (L wd) (L ps) = er at *
      clear hown hbel hln hle HLL HC HS HK HT HO HB HO2 HB2 hit hpos0
      by_cases her : er = 0
      · have t5 : ((er : Int) != 0) = false := by rw [bne_eq_false_iff_eq]; omega
        have HER := Lib.hid her
        clear her
        go_wp2_with (go_at_call 36; refine HR.out.mono ?_; rintro e w5 ⟨v5, rfl, hb5, hn5, hr5⟩; have X5 := Lib.hid hb5; clear hb5 hn5 hr5)
        go_ret2
        exact ⟨by rw [HER.out]; rfl, HBB.out.trans (X5.out.mono HBB.out.size)⟩
      · have t5 : ((er : Int) != 0) = true := by rw [bne_iff_ne]; omega
        have HER := Lib.hid her
        clear her
        go_wp2_with (go_at_call 36; refine HR.out.mono ?_; rintro e w5 ⟨v5, rfl, hb5, hn5, hr5⟩; have X5 := Lib.hid hb5; clear hb5 hn5 hr5)
        go_ret2
        exact ⟨by rw [if_neg HER.out]; rfl, HBB.out.trans (X5.out.mono HBB.out.size)⟩
end Go.Proofs.YtinabbdecmjcpaaGreatDoor.Ev
