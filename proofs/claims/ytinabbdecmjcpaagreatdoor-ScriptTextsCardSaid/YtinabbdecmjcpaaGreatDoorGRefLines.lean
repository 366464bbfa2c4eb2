/- The contract of the reference's Lines of layer 40: the lines of a script. -/
import Derived.Deep.RegionHeld3
import Derived.Deep.AppendLies
import Derived.Test.YtinabbdecmjcpaaGreatDoorG21
import Derived.Test.YtinabbdecmjcpaaGreatDoorG18
import Derived.Test.YtinabbdecmjcpaaGreatDoorGReadA
namespace Go.Proofs.YtinabbdecmjcpaaGreatDoor.Script
open Go.RowKit Go.Deep Go.Proofs.YtinabbdecmjcpaaGreatDoor Go.Proofs.YtinabbdecmjcpaaGreatDoor.Plain Go.Proofs.YtinabbdecmjcpaaGreatDoor.Words Go.Proofs.YtinabbdecmjcpaaGreatDoor.Named Go.Proofs.YtinabbdecmjcpaaGreatDoor.Hex Go.Proofs.YtinabbdecmjcpaaGreatDoor.Number Go.Proofs.YtinabbdecmjcpaaGreatDoor.Queue Go.Proofs.YtinabbdecmjcpaaGreatDoor.Line Go.Proofs.YtinabbdecmjcpaaGreatDoor.Ev
open Go.Lib (decDigits)
set_option linter.unusedVariables false

def strs (l : List (List UInt8)) : List Value := l.map fun x => .string (S x)
theorem strs_snoc (l : List (List UInt8)) (x : List UInt8) : strs (l ++ [x]) = strs l ++ [.string (S x)] := by simp [strs]
theorem own_base {w w' : World} {base base' e size n : Nat} {v : Value} {xs : List Value} (h : w.ownsRow base e size v n xs) (hb : Below base' w w') (hl : ∀ g, v.ownBlock = some g → g < base') : w'.ownsRow base e size v n xs := by
  obtain ⟨h1, h2⟩ := h
  refine ⟨h1, ?_⟩
  rcases h2 with h2 | ⟨g, cap, cur, rfl, hB, hg, r⟩
  · exact .inl h2
  · exact .inr ⟨g, cap, cur, rfl, hB, (hb.block g (hl g rfl)).trans hg, r⟩
theorem own_keep {w w' : World} {base e size n : Nat} {v : Value} {xs : List Value} (h : w.ownsRow base e size v n xs) (hb : Below w.heap.size w w') : w'.ownsRow base e size v n xs := own_base h hb (fun g hg => (World.ownsRow.lt h g hg).2)
theorem grow_below {W0 w w' : World} {base e size n : Nat} {v : Value} {xs : List Value} (hb : Below base W0 w) (h : w.ownsRow base e size v n xs) (hg : w.grownBy w' v.ownBlock) (hl : base ≤ w.heap.size) : Below base W0 w' :=
  hb.grown hg hl (fun k hk => (World.ownsRow.lt h k hk).1)

theorem tenS (nm : ByteArray) (hx : List UInt8) : (⟨#[116, 101, 110, 97, 110, 116, 32]⟩ : ByteArray) ++ nm ++ ⟨#[32]⟩ ++ S hx = S (wTen ++ 32 :: (L nm ++ 32 :: hx)) := by
  show S [116, 101, 110, 97, 110, 116, 32] ++ nm ++ S [32] ++ S hx = _
  have e1 : nm = S (L nm) := (S_L nm).symm
  generalize L nm = ly at *
  rw [e1, append_S, append_S, append_S]
  simp [wTen]
theorem capS (l : List UInt8) : (⟨#[99, 97, 112, 97, 99, 105, 116, 121, 32]⟩ : ByteArray) ++ S l = S (wCap ++ 32 :: l) := by
  show S [99, 97, 112, 97, 99, 105, 116, 121, 32] ++ S l = _
  rw [append_S]
  rfl
theorem sesS (l : List UInt8) : (⟨#[115, 101, 115, 115, 105, 111, 110, 115, 32]⟩ : ByteArray) ++ S l = S (wSes ++ 32 :: l) := by
  show S [115, 101, 115, 115, 105, 111, 110, 115, 32] ++ S l = _
  rw [append_S]
  rfl
/-- One append of some elements to a row of the call's own, as a step of a region that draws. -/
theorem step_append_two {ops : Array Oper} {o : Oper} {a : Act} {K : Act → World → Prop} {Q : Exit → Act → World → Prop} {E : Prop} {w : World} (hgd : o.guard = none) (s x : Operand) (t e : TypeId)
    (ho : o.op = .call { callee := .builtin .append, args := #[s, x], argTypes := #[t, t] }) (base : Nat) (i : TypeInfo) (z : Value) (size bytes : Nat) (ht : Tryz.prog.underlying t = some (.slice e)) (hi : Tryz.prog.info? e = some i) (hz : i.zero = some z)
    (hsize : i.size = size) (hby : i.bytes = bytes) (hzs : z.cells.size = size) (hsz : 0 < size) (v : Value) (n : Nat) (xs : List Value) (hs : a.eval s = v) (hown : w.ownsRow base e size v n xs) (ad : Addr) (news : List Value) (hx : a.eval x = .slice (some ad) 2 2)
    (hl : news.length = 2 * size) (hnews : ∀ j u, news[j]? = some u → w.cell? (ad.add j) = some u) (h1 : ∀ u ∈ news, u.oneCell' = true) (h63 : n + 2 ≤ 1000000) (hbyt : bytes ≤ 1000) (hbase : base ≤ w.heap.size)
    (h : ∀ (g' cap' : Nat) (w' : World), w'.ownsRow base e size (.slice (some ⟨g', 0, none⟩) (n + 2) cap') (n + 2) (xs ++ news) → w.grownBy w' v.ownBlock → K (a.put o.dst (.slice (some ⟨g', 0, none⟩) (n + 2) cap')) w') :
    if Region.wanted o (yielded ops a.tmps) = true then Oper.wp Tryz.prog o a w K Q else E := by
  have hbb : (n + 2) * bytes ≤ 140737488355328 := Nat.le_trans (Nat.mul_le_mul h63 hbyt) (by decide)
  exact step_append_lies w hgd s x t ho base e i z size bytes ht hi hz hsize hby hzs hsz v n xs hs hown ad 2 2 news hx hl hnews h1 (by decide) (by unfold maxLen; omega) hbb hbase _ rfl (fun g cap w' h2 h3 _ _ => h g cap w' h2 h3)
theorem own_weak {w : World} {base base' e size n : Nat} {v : Value} {xs : List Value} (h : w.ownsRow base e size v n xs) (hb : base' ≤ base) : w.ownsRow base' e size v n xs := by
  obtain ⟨h1, h2⟩ := h
  refine ⟨h1, ?_⟩
  rcases h2 with h2 | ⟨g, cap, cur, rfl, hB, r⟩
  · exact .inl h2
  · exact .inr ⟨g, cap, cur, rfl, by omega, r⟩
theorem far_c {W w5 : World} {base e size n b i : Nat} {v u : Value} {xs : List Value} (h : W.ownsRow base e size v n xs) (hg : W.grownBy w5 v.ownBlock) (hb : b < base) (hc : W.cell? ⟨b, i, none⟩ = some u) : w5.cell? ⟨b, i, none⟩ = some u :=
  (hg.cell_far ⟨b, i, none⟩ (World.block_lt_of_cell? _ _ hc) (fun e => by have := (World.ownsRow.lt h b e.symm).1; omega)).trans hc
set_option maxRecDepth 100000 in
set_option maxHeartbeats 8000000 in
theorem lines44 (ts : List Ten) (cap sess : Nat) (es : List Ev) (vt ve : Value) (w : World) (ht : TRow w vt ts) (hnt : ts.length ≤ 1000) (hst : ∀ t ∈ ts, t.name.size ≤ 1000000 ∧ t.key.length ≤ 1000000) (hc : cap ≤ 2147483647) (hs : sess ≤ 2147483647) (he : ERow w ve es) (hne : es.length ≤ 1000000) (hse : ∀ e ∈ es, EvOk e) :
    Calls Tryz.prog 9 #[setV vt cap sess, ve] w fun r w' => ∃ v, r = .returned v ∧ w'.ownsRow w.heap.size 9 1 v (linesL ts cap sess es).length (strs (linesL ts cap sess es)) ∧ Below w.heap.size w w' := by
  obtain ⟨a, c, rfl⟩ := trow_form ht
  obtain ⟨a2, c2, rfl⟩ := erow_form he
  obtain ⟨i0, hi, hz0, hz1, hz2⟩ := info_parts info9
  have hb1 : Below w.heap.size w (w.alloc (.cells #[.slice a ts.length c, .int .i64 cap, .int .i64 sess] 24)) := (Below.refl _ _).alloc (Nat.le_refl _) _
  have hz : (w.alloc (.cells #[.slice a ts.length c, .int .i64 cap, .int .i64 sess] 24)).heap.size = w.heap.size + 1 := by simp
  have g0 := World.cell?_alloc_at (w := w) #[.slice a ts.length c, .int .i64 cap, .int .i64 sess] 24 w.heap.size 0 rfl
  have g1 := World.cell?_alloc_at (w := w) #[.slice a ts.length c, .int .i64 cap, .int .i64 sess] 24 w.heap.size 1 rfl
  have g2 := World.cell?_alloc_at (w := w) #[.slice a ts.length c, .int .i64 cap, .int .i64 sess] 24 w.heap.size 2 rfl
  have HT := Lib.hid (And.intro (ht.below hb1) hst)
  have HE := Lib.hid (And.intro (he.below hb1) hse)
  have HB := Lib.hid hb1
  have HZ := Lib.hid hz
  have G := Lib.hid (And.intro g0 (And.intro g1 g2))
  obtain ⟨n, hN⟩ : ∃ n, n = ts.length := ⟨_, rfl⟩
  obtain ⟨ne, hNE⟩ : ∃ n, n = es.length := ⟨_, rfl⟩
  rw [← hN] at hnt HT HB HZ G HE ⊢
  rw [← hNE] at hne HE ⊢
  have HN := Lib.hid hN
  have HNE := Lib.hid hNE
  clear ht he hb1 hz g0 g1 g2 hst hse hN hNE
  go_enter Tryz.func9, Tryz.ntmps9
  go_wp2
  generalize w.alloc (.cells #[.slice a n c, .int .i64 cap, .int .i64 sess] 24) = W0 at *
  generalize hbb : w.heap.size = b at *
  have HBB := Lib.hid hbb
  clear hbb
  go_loopw [5, 6] (fun v i wr => ∃ (k : Nat) (x : Option Addr) (y : Nat), k ≤ n ∧ i = .int .i64 (k : Int) ∧ v = .slice x k y ∧ Hid (wr.ownsRow (b + 1) 9 1 (.slice x k y) k (strs ((ts.take k).map tenL))) ∧ Hid (Below (b + 1) W0 wr)) (fun _ i _ => n - (intOf i).toNat)
  case atStart => exact ⟨0, none, 0, by omega, rfl, rfl, Lib.hid (World.ownsRow_nil _ _ _ _), Lib.hid (by rw [← HZ.out]; exact Below.refl _ _)⟩
  case round =>
    obtain ⟨k, x, y, hk, rfl, rfl, hown, hbel⟩ := hrel
    have hB : Below W0.heap.size W0 wr := by rw [HZ.out]; exact hbel.out
    have q0 := keep_c hB G.out.1
    have q1 := keep_c hB G.out.2.1
    have q2 := keep_c hB G.out.2.2
    have hwz : b + 1 ≤ wr.heap.size := by have := hB.size; rw [HZ.out] at this; exact this
    by_cases hlt : k < n
    · have hl : k < ts.length := by have := HN.out; omega
      obtain ⟨g, o, rfl, hcap, hten⟩ := trow_at HT.out.1 (by omega)
      obtain ⟨c0, kv, c1, hcr⟩ := (hten k ts[k] (List.getElem?_eq_getElem hl)).below hB
      obtain ⟨a1, cc, rfl⟩ := crow_form hcr
      have hg1 : g < wr.heap.size := World.block_lt_of_cell? _ _ c0
      have hg2 : g < b + 1 := by
        have := World.block_lt_of_cell? _ _ (hten k ts[k] (List.getElem?_eq_getElem hl)).1
        rw [HZ.out] at this
        exact this
      have hsz := HT.out.2 ts[k] (List.getElem_mem hl)
      have hhx := refhex_any ts[k].key
      have hsn : (ts.take (k + 1)).map tenL = (ts.take k).map tenL ++ [tenL ts[k]] := by rw [List.take_succ_eq_append_getElem hl, List.map_append]; rfl
      have HSN := Lib.hid hsn
      have HX := Lib.hid hhx
      have HCR := Lib.hid hcr
      have HTL : Hid (tenL ts[k] = wTen ++ 32 :: (L ts[k].name ++ 32 :: hexOf ts[k].key)) := Lib.hid rfl
      have hhl : (hexOf ts[k].key).length ≤ 2000001 := by unfold hexOf; split; simp; rw [hexs_len]; omega
      clear hsn hhx hten hcr
      generalize tenL ts[k] = tl at *
      generalize hexOf ts[k].key = hx at *
      generalize ts[k].name = nm at *
      generalize ts[k].key = ky at *
      have wk : IntKind.i64.wrap ((k : Int) + 1) = (k : Int) + 1 := IntWalk.i64_in _ (by omega)
      have k0 : (0 : Int) ≤ (k : Int) := by omega
      have k1 : (k : Int) < (n : Int) := by omega
      go_wp2_with fail
      have s1 : ¬9223372036854775807 < 7 + nm.size := by omega
      have s2 : ¬9223372036854775807 < 7 + nm.size + 1 := by omega
      have s3 : ¬9223372036854775807 < 7 + nm.size + 1 + hx.length := by omega
      go_region_held3 (fun w' => w'.cell? ⟨b, 0, none⟩ = some (.slice (some ⟨g, o, none⟩) n c) ∧ w'.cell? ⟨g, o + k * 2, none⟩ = some (.string nm) ∧ w'.cell? ⟨g, o + k * 2 + 1, none⟩ = some (.slice a1 ky.length cc))
        (first | go_keep | exact ⟨keep_c hb3 q0, keep_c hb3 c0, keep_c hb3 c1⟩ | exact ⟨far_c (own_keep hown.out (bt hb3 (b_alloc _ _))) hgrow5 (by omega) (keep_c (bt hb3 (b_alloc _ _)) q0), far_c (own_keep hown.out (bt hb3 (b_alloc _ _))) hgrow5 (by omega) (keep_c (bt hb3 (b_alloc _ _)) c0), far_c (own_keep hown.out (bt hb3 (b_alloc _ _))) hgrow5 (by omega) (keep_c (bt hb3 (b_alloc _ _)) c1)⟩)
        (first
          | (go_at_call 24; refine (HX.out _ _ (by omega) (by exact HCR.out.row)).mono ?_; rintro e w3 ⟨rfl, hb3'⟩; have hb3 := bt ((Below.refl _ wr).drew) hb3'; clear hb3')
          | (refine step_append_one (by rfl) (.tmp 17) (.tmp 34) 33 9 (by rfl) (b + 1) i0 _ 1 16 Tryz.underlying33 hi hz0 hz1 hz2 rfl (by decide) _ k (strs ((ts.take k).map tenL)) (by rfl) (by exact World.ownsRow.alloc (own_keep hown.out hb3) _) ⟨_, 0, none⟩ [.string (⟨#[116, 101, 110, 97, 110, 116, 32]⟩ ++ nm ++ ⟨#[32]⟩ ++ S hx)] (by rfl) rfl (by exact newN _ _ _ _ rfl) (by simp [Value.oneCell']) (by omega) (by decide) (by have := hb3.size; simp at this ⊢; omega) ?_; intro g' cap' w5 hown5 hgrow5 hat5))
      all_goals
        have hbel5 := grow_below (below_tr (hb3.mono hwz) hbel.out |>.alloc (by have := hb3.size; omega) _) (World.ownsRow.alloc (own_keep hown.out hb3) _) hgrow5 (by have := hb3.size; simp; omega)
        have HO5 := Lib.hid hown5
        have HB5 := Lib.hid hbel5
        clear hown5 hbel5 hgrow5 hat5 hb3 s1 s2 s3
        go_wp2
        go_roundw
        case rel => 
          refine ⟨k + 1, _, _, by omega, by go_num, rfl, Lib.hid ?_, HB5⟩
          rw [HSN.out, strs_snoc, HTL.out, ← tenS]
          exact HO5.out
        case measure => simp [intOf]; omega
    · obtain rfl : k = n := by omega
      have e0 : ts.take k = ts := List.take_of_length_le (by have := HN.out; omega)
      rw [e0] at hown
      have wc : IntKind.u64.wrap (cap : Int) = (cap : Int) := IntWalk.u64_in _ (by omega)
      have ws : IntKind.u64.wrap (sess : Int) = (sess : Int) := IntWalk.u64_in _ (by omega)
      have dc := dec_len cap (by omega)
      have dq := dec_len sess (by omega)
      have HDC : Hid (∀ W, Calls Tryz.prog 25 #[.int .u64 (cap : Int)] W fun e w' => e = .returned (.string (S (decDigits cap))) ∧ W = w') := Lib.hid fun W => refdigits_any cap W (by omega)
      have HDS : Hid (∀ W, Calls Tryz.prog 25 #[.int .u64 (sess : Int)] W fun e w' => e = .returned (.string (S (decDigits sess))) ∧ W = w') := Lib.hid fun W => refdigits_any sess W (by omega)
      have HCL : Hid (capL cap = wCap ++ 32 :: decDigits cap) := Lib.hid rfl
      have HSL : Hid (sesL sess = wSes ++ 32 :: decDigits sess) := Lib.hid rfl
      clear e0
      generalize decDigits cap = d1 at *
      generalize decDigits sess = d2 at *
      have s1 : ¬9223372036854775807 < 9 + d1.length := by omega
      have s2 : ¬9223372036854775807 < 9 + d2.length := by omega
      go_wp2_with fail
      go_region_held3 (fun w' => w'.cell? ⟨b, 1, none⟩ = some (.int .i64 (cap : Int)) ∧ w'.cell? ⟨b, 2, none⟩ = some (.int .i64 (sess : Int)))
        (first | go_keep | exact ⟨far_c (own_keep hown.out ((b_alloc _ _).drew)) hgrow5 (by omega) (keep_c ((b_alloc _ _).drew) q1), far_c (own_keep hown.out ((b_alloc _ _).drew)) hgrow5 (by omega) (keep_c ((b_alloc _ _).drew) q2)⟩)
        (first
          | (go_at_call 25; (with_reducible refine (HDC.out _).mono ?_); rintro e w3 ⟨rfl, rfl⟩)
          | (go_at_call 25; (with_reducible refine (HDS.out _).mono ?_); rintro e w3 ⟨rfl, rfl⟩)
          | (refine step_append_two (by rfl) (.tmp 36) (.tmp 47) 33 9 (by rfl) (b + 1) i0 _ 1 16 Tryz.underlying33 hi hz0 hz1 hz2 rfl (by decide) _ k (strs (ts.map tenL)) (by rfl) (by exact own_keep hown.out ((b_alloc _ _).drew)) ⟨_, 0, none⟩ [.string (⟨#[99, 97, 112, 97, 99, 105, 116, 121, 32]⟩ ++ S d1), .string (⟨#[115, 101, 115, 115, 105, 111, 110, 115, 32]⟩ ++ S d2)] (by rfl) rfl (by exact newN _ _ _ _ rfl) (by simp [Value.oneCell']) (by omega) (by decide) (by simp; omega) ?_; intro g' cap' w5 hown5 hgrow5))
      all_goals
        have hbel5 := grow_below (below_tr (((b_alloc _ _).drew).mono hwz) hbel.out) (own_keep hown.out ((b_alloc _ _).drew)) hgrow5 (by simp; omega)
        have hown6 : w5.ownsRow (b + 1) 9 1 (.slice (some ⟨g', 0, none⟩) (k + 2 + 0) cap') (k + 2 + 0) (strs (ts.map tenL ++ [capL cap, sesL sess] ++ (es.take 0).map evL)) := by
          have e : strs (ts.map tenL ++ [capL cap, sesL sess] ++ (es.take 0).map evL) = strs (ts.map tenL) ++ [.string (⟨#[99, 97, 112, 97, 99, 105, 116, 121, 32]⟩ ++ S d1), .string (⟨#[115, 101, 115, 115, 105, 111, 110, 115, 32]⟩ ++ S d2)] := by
            rw [HCL.out, HSL.out, capS, sesS]
            simp [strs]
          rw [e]
          exact hown5
        have HO6 := Lib.hid hown6
        have HB6 := Lib.hid hbel5
        clear hown5 hown6 hbel5 hgrow5 s1 s2 wc ws dc dq HDC HDS HCL HSL hown hbel hB q0 q1 q2 hwz
        obtain ⟨head, hhd⟩ : ∃ head, head = ts.map tenL ++ [capL cap, sesL sess] := ⟨_, rfl⟩
        rw [← hhd] at HO6
        have HHD := Lib.hid hhd
        clear hhd
        go_wp2
        go_loopw [5, 7] (fun v i wr => ∃ (j : Nat) (x : Option Addr) (y : Nat), j ≤ ne ∧ i = .int .i64 (j : Int) ∧ v = .slice x (k + 2 + j) y ∧ Hid (wr.ownsRow (b + 1) 9 1 (.slice x (k + 2 + j) y) (k + 2 + j) (strs (head ++ (es.take j).map evL))) ∧ Hid (Below (b + 1) W0 wr)) (fun _ i _ => ne - (intOf i).toNat)
        case atStart => exact ⟨0, _, _, by omega, rfl, rfl, HO6, HB6⟩
        case round =>
          obtain ⟨j, x2, y2, hj, rfl, rfl, hown, hbel⟩ := hrel
          clear HO6 HB6
          have hB : Below W0.heap.size W0 wr := by rw [HZ.out]; exact hbel.out
          have hwz : b + 1 ≤ wr.heap.size := by have := hB.size; rw [HZ.out] at this; exact this
          by_cases hlt : j < ne
          · have hl : j < es.length := by have := HNE.out; omega
            obtain ⟨g, o, rfl, hev⟩ := erow_at HE.out.1 (by omega)
            obtain ⟨a3, c3, hcr, d0, d1, d2, d3, d4, d5, d6, d7⟩ := ((hev j es[j] (List.getElem?_eq_getElem hl)).below hB).load
            have hpr := print39 es[j] _ wr (HE.out.2 _ (List.getElem_mem hl)) hcr.row
            have wj : IntKind.i64.wrap ((j : Int) + 1) = (j : Int) + 1 := IntWalk.i64_in _ (by omega)
            have hsn : head ++ (es.take (j + 1)).map evL = (head ++ (es.take j).map evL) ++ [(printOf es[j]).getD []] := by
              rw [List.take_succ_eq_append_getElem hl, List.map_append, List.append_assoc]; rfl
            unfold PrintPost at hpr
            simp only [evV] at hpr
            have HP := Lib.hid hpr
            have HSN := Lib.hid hsn
            clear hev hcr hpr hsn
            generalize (printOf es[j]).getD [] = pl at *
            generalize (printOf es[j]).isSome = pb at *
            generalize es[j].kind = x0 at *
            generalize es[j].session = x1 at *
            generalize es[j].stream = x2 at *
            generalize es[j].tenant = x3 at *
            generalize es[j].n = x4 at *
            generalize es[j].m = x5 at *
            generalize es[j].bits = x6 at *
            generalize es[j].data.length = x7 at *
            go_wp2_with (first | (go_at_call 23; refine HP.out.mono ?_; rintro e w3 ⟨rfl, hb3⟩; have X3 := Lib.hid hb3; clear hb3) | (at_builtin; refine wpList_append_lies _ rfl _ _ _ rfl (b + 1) 9 i0 _ 1 16 Tryz.underlying33 hi hz0 hz1 hz2 rfl (by omega) _ (k + 2 + j) _ rfl (World.ownsRow.alloc (own_keep hown.out X3.out) _) ⟨_, 0, none⟩ 1 1 [.string (S pl)] rfl rfl (newN _ _ _ _ rfl) (by simp [Value.oneCell']) (by omega) (by unfold maxLen; omega) (by omega) (by have := X3.out.size; simp; omega) _ rfl ?_; intro g' cap' w5 hown5 hgrow5 hat5 hlt5))
            have hbel5 := grow_below (below_tr (X3.out.mono hwz) hbel.out |>.alloc (by have := X3.out.size; omega) _) (World.ownsRow.alloc (own_keep hown.out X3.out) _) hgrow5 (by have := X3.out.size; simp; omega)
            go_roundw
            case rel =>
              refine ⟨j + 1, _, _, by omega, by go_num, rfl, Lib.hid ?_, Lib.hid hbel5⟩
              rw [HSN.out, strs_snoc]
              exact hown5
            case measure => simp [intOf]; omega
          · obtain rfl : j = ne := by omega
            have e0 : es.take j = es := List.take_of_length_le (by have := HNE.out; omega)
            rw [e0] at hown
            clear e0
            go_wp2
            go_ret
            have hl : linesL ts cap sess es = head ++ es.map evL := by rw [HHD.out]; rfl
            have hz : (head ++ es.map evL).length = k + 2 + j := by rw [HHD.out]; simp; have := HN.out; have := HNE.out; omega
            rw [hl, hz, HBB.out]
            refine ⟨_, rfl, own_weak hown.out (by omega), ?_⟩
            exact below_tr (hbel.out.mono (by omega)) HB.out
end Go.Proofs.YtinabbdecmjcpaaGreatDoor.Script
