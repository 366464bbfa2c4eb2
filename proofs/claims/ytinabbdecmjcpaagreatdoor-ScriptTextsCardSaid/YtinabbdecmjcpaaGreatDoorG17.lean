/- Contracts of auth.Check, proxy.Check and of the references' checks of tenants and setups. The contracts of auth.Check and proxy.Check. The contracts of proxy.Check, and of the references' checks of tenants and setups. -/
import Derived.Deep.RegionHeld3
import Derived.Test.YtinabbdecmjcpaaGreatDoorG16
namespace Go.Proofs.YtinabbdecmjcpaaGreatDoor.Script
open Go.RowKit Go.Deep Go.Proofs.YtinabbdecmjcpaaGreatDoor Go.Proofs.YtinabbdecmjcpaaGreatDoor.Plain Go.Proofs.YtinabbdecmjcpaaGreatDoor.Words Go.Proofs.YtinabbdecmjcpaaGreatDoor.Named Go.Proofs.YtinabbdecmjcpaaGreatDoor.Hex Go.Proofs.YtinabbdecmjcpaaGreatDoor.Number Go.Proofs.YtinabbdecmjcpaaGreatDoor.Queue Go.Proofs.YtinabbdecmjcpaaGreatDoor.Line Go.Proofs.YtinabbdecmjcpaaGreatDoor.Ev
set_option linter.unusedVariables false

/-- A tenant at a place. -/
def TenAt (w : World) (g o i : Nat) (t : Ten) : Prop := w.cell? ⟨g, o + i * 2, none⟩ = some (.string t.name) ∧ ∃ kv, w.cell? ⟨g, o + i * 2 + 1, none⟩ = some kv ∧ CRow w kv t.key
theorem TenAt.below {w w' : World} {g o i : Nat} {t : Ten} (h : TenAt w g o i t) (hb : Below w.heap.size w w') : TenAt w' g o i t := by
  obtain ⟨h1, kv, h2, h3⟩ := h
  exact ⟨keep_c hb h1, kv, keep_c hb h2, crow_below h3 hb⟩
/-- A slice of tenants. -/
def TRow (w : World) (v : Value) (ts : List Ten) : Prop :=
  (ts = [] ∧ ∃ a cap, v = .slice a 0 cap) ∨ (∃ g o cap, v = .slice (some ⟨g, o, none⟩) ts.length cap ∧ ts.length ≤ cap ∧ ∀ (i : Nat) (t : Ten), ts[i]? = some t → TenAt w g o i t)
theorem TRow.below {w w' : World} {v : Value} {ts : List Ten} (h : TRow w v ts) (hb : Below w.heap.size w w') : TRow w' v ts := by
  rcases h with h | ⟨g, o, cap, e, hc, h⟩
  · exact .inl h
  · exact .inr ⟨g, o, cap, e, hc, fun i t ht => (h i t ht).below hb⟩
theorem flatT_get : ∀ (ts : List Ten) (ks : List Value) (i : Nat) (t : Ten) (k : Value), ts[i]? = some t → ks[i]? = some k → (flatT ts ks)[i * 2]? = some (.string t.name) ∧ (flatT ts ks)[i * 2 + 1]? = some k
  | [], _, i, t, k, h, _ => by simp at h
  | _ :: _, [], i, t, k, _, h => by simp at h
  | u :: ts, c :: ks, 0, t, k, h, h' => by
    simp at h h'
    subst h h'
    exact ⟨rfl, rfl⟩
  | u :: ts, c :: ks, i + 1, t, k, h, h' => by
    have := flatT_get ts ks i t k (by simpa using h) (by simpa using h')
    rw [show (i + 1) * 2 = i * 2 + 2 by omega]
    exact this
theorem own_trow {w : World} {n0 : Nat} {v : Value} {ts : List Ten} {ks : List Value} {bd : Nat → Prop} (ho : w.ownsRow n0 46 2 v ts.length (flatT ts ks)) (hr : Rows w (ts.map Ten.key) ks bd) : TRow w v ts := by
  rcases ho.2 with ⟨rfl, h0⟩ | ⟨g, cap, cur, rfl, hB, hg, hn, _⟩
  · exact .inl ⟨List.length_eq_zero_iff.1 h0, none, 0, rfl⟩
  · refine .inr ⟨g, 0, cap, rfl, hn, fun i t ht => ?_⟩
    have hi : i < ts.length := (List.getElem?_eq_some_iff.1 ht).1
    have hik : i < ks.length := by rw [hr.1]; simpa using hi
    obtain ⟨k, hk⟩ : ∃ k, ks[i]? = some k := ⟨_, List.getElem?_eq_getElem hik⟩
    obtain ⟨q0, q1⟩ := flatT_get ts ks i t k ht hk
    rw [TenAt, Nat.zero_add]
    exact ⟨(World.ownsRow.cellAt ho (i * 2) (by omega)).trans q0, k, (World.ownsRow.cellAt ho (i * 2 + 1) (by omega)).trans q1, (hr.2 i t.key k (by simp [ht]) hk).1⟩

theorem called106 (s : ByteArray) (w : World) : Calls Tryz.prog 50 #[.string s] w fun e w' => e = .returned (.func (.func 73) #[] #[.pointer (some ⟨w.heap.size, 0, none⟩)]) ∧ w.alloc (.cells #[.string s] 9) = w' := by
  go_enter Tryz.func50, Tryz.ntmps50
  go_wp2
  go_ret
  exact ⟨rfl, rfl⟩
theorem called113 (nm s : ByteArray) (a : Option Addr) (n c : Nat) (y : Nat) (w : World) (hy : w.cell? ⟨y, 0, none⟩ = some (.string s)) : Calls Tryz.prog 73 #[.agg #[.string nm, .slice a n c], .pointer (some ⟨y, 0, none⟩)] w fun e w' => e = .returned (.bool (nm.toList == s.toList)) ∧ Below w.heap.size w w' := by
  have hl := World.block_lt_of_cell? _ _ hy
  simp only at hl
  go_enter Tryz.func73, Tryz.ntmps73
  go_wp2
  go_ret
  exact ⟨rfl, (Below.refl _ _).alloc (Nat.le_refl _) _⟩

/-- Which of some tenants is called so. -/
def Found (ts : List Ten) (s : List UInt8) (r : Int) : Prop := (∃ (k : Nat) (h : k < ts.length), r = (k : Int) ∧ L ts[k].name = s ∧ ∀ j (hj : j < ts.length), j < k → L ts[j].name ≠ s) ∨ (r = -1 ∧ ∀ k (h : k < ts.length), L ts[k].name ≠ s)
theorem beq_str (a b : ByteArray) : (a.toList == b.toList) = decide (L a = L b) := by
  rw [ByteArray.toList_eq, ByteArray.toList_eq]
  by_cases h : L a = L b
  · rw [decide_eq_true h, beq_iff_eq]; exact h
  · rw [decide_eq_false h, beq_eq_false_iff_ne]; exact h

set_option maxRecDepth 100000 in
set_option maxHeartbeats 4000000 in
theorem idx112 (ts : List Ten) (n g o cap y : Nat) (s : ByteArray) (w : World) (hN : n = ts.length) (hn : n ≤ 1000000) (hy : w.cell? ⟨y, 0, none⟩ = some (.string s)) (hc : ∀ (i : Nat) (t : Ten), ts[i]? = some t → TenAt w g o i t) :
    Calls Tryz.prog 72 #[.slice (some ⟨g, o, none⟩) n cap, .func (.func 73) #[] #[.pointer (some ⟨y, 0, none⟩)]] w fun e w' => ∃ r : Int, e = .returned (.int .i64 r) ∧ Below w.heap.size w w' ∧ Found ts (L s) r := by
  have HC := Lib.hid hc
  have HN := Lib.hid hN
  have HY := Lib.hid hy
  clear hc hN hy
  go_enter Tryz.func72, Tryz.ntmps72
  go_wp2
  go_loopw [8] (fun v wr => ∃ k : Nat, k ≤ n ∧ v = .int .i64 (k : Int) ∧ Hid (Below w.heap.size w wr) ∧ Hid (∀ j (h : j < ts.length), j < k → L ts[j].name ≠ L s)) (fun v _ => n - (intOf v).toNat)
  case atStart => exact ⟨0, by omega, rfl, Lib.hid (Below.refl _ _), Lib.hid fun j h hj => absurd hj (by omega)⟩
  case round =>
    obtain ⟨k, hk, rfl, hb, hb2⟩ := hrel
    by_cases hlt : k < n
    · have hl : k < ts.length := by have := HN.out; omega
      obtain ⟨c0, kv, c1, hcr⟩ := (HC.out k ts[k] (List.getElem?_eq_getElem hl)).below hb.out
      obtain ⟨a1, cc, rfl⟩ := crow_form hcr
      have wk : IntKind.i64.wrap ((k : Int) + 1) = (k : Int) + 1 := IntWalk.i64_in _ (by omega)
      have hcall := called113 ts[k].name s a1 ts[k].key.length cc y wr (keep_c hb.out HY.out)
      rw [beq_str] at hcall
      by_cases he : L ts[k].name = L s
      · rw [decide_eq_true he] at hcall
        have HE := Lib.hid he
        have HCA := Lib.hid hcall
        clear he hcall hcr
        generalize hnm : ts[k].name = nm at c0 HCA
        clear hnm
        go_wp2_with (go_at_call 73; refine HCA.out.mono ?_; rintro e w3 ⟨rfl, hb3⟩; have X3 := Lib.hid hb3; clear hb3)
        go_ret
        exact ⟨_, rfl, bt hb.out X3.out, .inl ⟨k, hl, rfl, HE.out, fun j hj hjk => hb2.out j hj hjk⟩⟩
      · rw [decide_eq_false he] at hcall
        have HE := Lib.hid he
        have HCA := Lib.hid hcall
        clear he hcall hcr
        generalize hnm : ts[k].name = nm at c0 HCA
        clear hnm
        go_wp2_with (go_at_call 73; refine HCA.out.mono ?_; rintro e w3 ⟨rfl, hb3⟩; have X3 := Lib.hid hb3; clear hb3)
        go_roundw
        case rel =>
          refine ⟨k + 1, by omega, by go_num, Lib.hid (bt hb.out X3.out), Lib.hid fun j h hj => ?_⟩
          by_cases e : j = k
          · subst e; exact HE.out
          · exact hb2.out j h (by omega)
        case measure => simp [intOf]; omega
    · go_wp2
      go_ret
      exact ⟨_, rfl, hb.out, .inr ⟨rfl, fun j h => hb2.out j h (by have := HN.out; omega)⟩⟩
theorem found_mem (ts : List Ten) (s : List UInt8) (r : Int) (h : Found ts s r) : decide ((0 : Int) ≤ r) = decide (s ∈ ts.map fun t => L t.name) := by
  rcases h with ⟨k, hk, rfl, e, _⟩ | ⟨rfl, hn⟩
  · rw [decide_eq_true (by omega), decide_eq_true]
    rw [← e]
    exact List.mem_map.2 ⟨ts[k], List.getElem_mem hk, rfl⟩
  · rw [decide_eq_false (by decide), decide_eq_false]
    intro hm
    obtain ⟨t, ht, e⟩ := List.mem_map.1 hm
    obtain ⟨k, hk, rfl⟩ := List.mem_iff_getElem.1 ht
    exact hn k hk e
theorem contains105 (ts : List Ten) (n g o cap y : Nat) (s : ByteArray) (w : World) (hN : n = ts.length) (hn : n ≤ 1000000) (hy : w.cell? ⟨y, 0, none⟩ = some (.string s)) (hc : ∀ (i : Nat) (t : Ten), ts[i]? = some t → TenAt w g o i t) :
    Calls Tryz.prog 49 #[.slice (some ⟨g, o, none⟩) n cap, .func (.func 73) #[] #[.pointer (some ⟨y, 0, none⟩)]] w fun e w' => e = .returned (.bool (decide (L s ∈ ts.map fun t => L t.name))) ∧ Below w.heap.size w w' := by
  have h := Lib.hid (idx112 ts n g o cap y s w hN hn hy hc)
  clear hN hc hy
  go_enter Tryz.func49, Tryz.ntmps49
  go_wp2_with fail
  refine h.out.mono ?_
  rintro e w2 ⟨r, rfl, hb, hf⟩
  have hm := Lib.hid (found_mem ts _ _ hf)
  have HB := Lib.hid hb
  clear hf hb
  go_wp2
  go_ret
  exact ⟨by rw [← hm.out]; rfl, HB.out⟩
end Go.Proofs.YtinabbdecmjcpaaGreatDoor.Script

namespace Go.Proofs.YtinabbdecmjcpaaGreatDoor.Script
open Go.RowKit Go.Deep Go.Proofs.YtinabbdecmjcpaaGreatDoor Go.Proofs.YtinabbdecmjcpaaGreatDoor.Plain Go.Proofs.YtinabbdecmjcpaaGreatDoor.Words Go.Proofs.YtinabbdecmjcpaaGreatDoor.Named Go.Proofs.YtinabbdecmjcpaaGreatDoor.Hex Go.Proofs.YtinabbdecmjcpaaGreatDoor.Number Go.Proofs.YtinabbdecmjcpaaGreatDoor.Queue Go.Proofs.YtinabbdecmjcpaaGreatDoor.Line Go.Proofs.YtinabbdecmjcpaaGreatDoor.Ev
set_option linter.unusedVariables false

def names (ts : List Ten) : List (List UInt8) := ts.map fun t => L t.name
theorem chkT_at (ts : List Ten) (k : Nat) (h : k < ts.length) : chkT (names (ts.take k)) (ts.drop k) = if namedB 16 smallB lowB (L ts[k].name) = false then 7 else if L ts[k].name ∈ names (ts.take k) then 9 else if ts[k].key.length < 1 ∨ 32 < ts[k].key.length then 2 else chkT (names (ts.take (k + 1))) (ts.drop (k + 1)) := by
  rw [List.drop_eq_getElem_cons h, chkT, List.take_succ_eq_append_getElem h, names, names, List.map_append]
  rfl
theorem trow_form {w : World} {v : Value} {ts : List Ten} (h : TRow w v ts) : ∃ a cap, v = .slice a ts.length cap := by
  rcases h with ⟨rfl, a, cap, rfl⟩ | ⟨g, o, cap, rfl, _⟩
  · exact ⟨_, _, rfl⟩
  · exact ⟨_, _, rfl⟩
theorem trow_at {w : World} {a : Option Addr} {n cap : Nat} {ts : List Ten} (h : TRow w (.slice a n cap) ts) (hl : 0 < ts.length) : ∃ g o, a = some ⟨g, o, none⟩ ∧ ts.length ≤ cap ∧ ∀ (i : Nat) (t : Ten), ts[i]? = some t → TenAt w g o i t := by
  rcases h with ⟨rfl, _⟩ | ⟨g, o, cap', e, hc, h⟩
  · simp at hl
  · cases e
    exact ⟨g, o, rfl, hc, h⟩

set_option maxRecDepth 100000 in
set_option maxHeartbeats 8000000 in
theorem auth92 (ts : List Ten) (v : Value) (w : World) (h : TRow w v ts) (hn : ts.length ≤ 1000000) (hs : ∀ t ∈ ts, t.name.size ≤ 1000000000000) :
    Calls Tryz.prog 31 #[v] w fun e w' => e = .returned (.int .i64 (checkT ts : Int)) ∧ Below w.heap.size w w' := by
  obtain ⟨a, cap, rfl⟩ := trow_form h
  have H := Lib.hid h
  have HS := Lib.hid hs
  clear h hs
  by_cases h8 : 8 < ts.length
  · have hR : checkT ts = 3 := by unfold checkT; rw [if_pos h8]
    rw [hR]
    have t1 : decide ((8 : Int) < (ts.length : Int)) = true := decide_eq_true (by omega)
    clear hR
    go_enter Tryz.func31, Tryz.ntmps31
    go_wp2
    go_ret
    exact ⟨rfl, Below.refl _ _⟩
  · have hR : checkT ts = chkT [] ts := by unfold checkT; rw [if_neg h8]
    obtain ⟨R, hR'⟩ : ∃ R, R = checkT ts := ⟨_, rfl⟩
    rw [← hR']
    have HR : Hid (R = chkT (names (ts.take 0)) (ts.drop 0)) := Lib.hid (by rw [hR', hR]; rfl)
    have t1 : decide ((8 : Int) < (ts.length : Int)) = false := decide_eq_false (by omega)
    obtain ⟨n, hN⟩ : ∃ n, n = ts.length := ⟨_, rfl⟩
    rw [← hN] at t1 hn H h8 ⊢
    have HN := Lib.hid hN
    clear hR hR' hN
    go_enter Tryz.func31, Tryz.ntmps31
    go_wp2
    go_loopw [10] (fun v wr => ∃ k : Nat, k ≤ n ∧ v = .int .i64 (k : Int) ∧ Hid (Below w.heap.size w wr) ∧ Hid (R = chkT (names (ts.take k)) (ts.drop k))) (fun v _ => n - (intOf v).toNat)
    case atStart => exact ⟨0, by omega, rfl, Lib.hid (Below.refl _ _), HR⟩
    case round =>
      obtain ⟨k, hk, rfl, hb, hr⟩ := hrel
      by_cases hlt : k < n
      · have hl : k < ts.length := by have := HN.out; omega
        obtain ⟨g, o, rfl, hcap, hten⟩ := trow_at H.out (by omega)
        obtain ⟨c0, kv, c1, hcr⟩ := (hten k ts[k] (List.getElem?_eq_getElem hl)).below hb.out
        obtain ⟨a1, cc, rfl⟩ := crow_form hcr
        have wk : IntKind.i64.wrap ((k : Int) + 1) = (k : Int) + 1 := IntWalk.i64_in _ (by omega)
        have hstep := chkT_at ts k hl
        rw [← hr.out] at hstep
        have htn := Lib.hid (fun W => tenant_any ts[k].name W (HS.out _ (List.getElem_mem hl)))
        have HTT : Hid (∀ W, Below w.heap.size w W → ∀ (i : Nat) (t : Ten), (ts.take k)[i]? = some t → TenAt W g o i t) := Lib.hid fun W hb i t ht => (hten i t (by
          have hi := (List.getElem?_eq_some_iff.1 ht).1
          simp at hi
          rw [List.getElem?_take, if_pos (by omega)] at ht
          exact ht)).below hb
        have HTL : Hid (k = (ts.take k).length) := Lib.hid (by simp; omega)
        have hkc : (k : Int) ≤ (cap : Int) := by omega
        have hk0 : (0 : Int) ≤ (k : Int) := by omega
        have HST := Lib.hid hstep
        have hkl : (ts[k].key).length = (ts[k].key).length := rfl
        clear hstep hten hcr hkl
        generalize hnm : ts[k].name = nm at *
        generalize hky : ts[k].key.length = kl at *
        clear hnm hky
        by_cases hnb : namedB 16 smallB lowB (L nm) = false
        · rw [hnb] at htn
          have hRv : R = 7 := by rw [HST.out, if_pos hnb]
          have HRV := Lib.hid hRv
          clear hRv hnb
          go_wp2_with (go_at_call 48; refine (htn.out _).mono ?_; rintro e w3 ⟨rfl, hb3⟩; have X3 := Lib.hid hb3; clear hb3)
          go_ret
          refine ⟨by rw [HRV.out]; rfl, bt hb.out (bt ((Below.refl _ _).alloc (Nat.le_refl _) _) X3.out)⟩
        · have hnt : namedB 16 smallB lowB (L nm) = true := by simpa using hnb
          rw [hnt] at htn
          have hst2 : R = if L nm ∈ names (ts.take k) then 9 else if kl < 1 ∨ 32 < kl then 2 else chkT (names (ts.take (k + 1))) (ts.drop (k + 1)) := by rw [HST.out, if_neg hnb]
          have HS2 := Lib.hid hst2
          clear hst2 hnb hnt HST
          cases hM : decide (L nm ∈ (ts.take k).map fun t => L t.name) with
          | true =>
            have HM := Lib.hid hM
            have hRv : R = 9 := by rw [HS2.out, if_pos (show L nm ∈ names (ts.take k) from of_decide_eq_true hM)]
            have HRV := Lib.hid hRv
            clear hM hRv
            go_wp2_with (go_at_call 48; refine (htn.out _).mono ?_; rintro e w3 ⟨rfl, hb3⟩; have d0 := keep_c hb3 (World.cell?_alloc_at (w := wr) #[.string nm, .slice a1 kl cc] 46 wr.heap.size 0 rfl); have d1 := keep_c hb3 (World.cell?_alloc_at (w := wr) #[.string nm, .slice a1 kl cc] 46 wr.heap.size 1 rfl); have X3 := Lib.hid (bt hb.out (bt ((Below.refl _ _).alloc (Nat.le_refl _) (.cells #[.string nm, .slice a1 kl cc] 46)) hb3)); clear hb3)
            go_region_held3 (fun w' => w'.cell? ⟨wr.heap.size, 0, none⟩ = some (.string nm))
              (first | go_keep | exact keep_c hb4 d0)
              (first
                | (go_at_call 50; refine (called106 _ _).mono ?_; rintro e w4 ⟨rfl, rfl⟩)
                | (go_at_call 49; refine (contains105 (ts.take k) k g o cap _ nm _ HTL.out (by omega) (by exact new1_at w3 (.string nm) 9 w3.heap.size rfl) (by exact HTT.out _ (bt X3.out ((Below.refl _ _).alloc (Nat.le_refl _) (.cells #[.string nm] 9)).drew))).mono ?_; rintro e w5 ⟨rfl, hb5⟩; rw [HM.out]; have d2 := keep_c hb5 (keep_c ((Below.refl _ _).alloc (Nat.le_refl _) (.cells #[.string nm] 9)).drew d0); have d3 := keep_c hb5 (keep_c ((Below.refl _ _).alloc (Nat.le_refl _) (.cells #[.string nm] 9)).drew d1); have X5 := Lib.hid (bt X3.out (bt ((Below.refl _ _).alloc (Nat.le_refl _) (.cells #[.string nm] 9)).drew hb5)); clear hb5))
            all_goals
              go_wp2
              go_ret
              exact ⟨by rw [HRV.out]; rfl, X5.out⟩
          | false =>
            have HM := Lib.hid hM
            have hst3 : R = if kl < 1 ∨ 32 < kl then 2 else chkT (names (ts.take (k + 1))) (ts.drop (k + 1)) := by rw [HS2.out, if_neg (show ¬ L nm ∈ names (ts.take k) from of_decide_eq_false hM)]
            have HS3 := Lib.hid hst3
            clear hM hst3
            by_cases hk1 : kl < 1
            · have u1 : decide ((kl : Int) < 1) = true := decide_eq_true (by omega)
              have hRv : R = 2 := by rw [HS3.out, if_pos (.inl hk1)]
              have HRV := Lib.hid hRv
              clear hRv
              go_wp2_with (go_at_call 48; refine (htn.out _).mono ?_; rintro e w3 ⟨rfl, hb3⟩; have d0 := keep_c hb3 (World.cell?_alloc_at (w := wr) #[.string nm, .slice a1 kl cc] 46 wr.heap.size 0 rfl); have d1 := keep_c hb3 (World.cell?_alloc_at (w := wr) #[.string nm, .slice a1 kl cc] 46 wr.heap.size 1 rfl); have X3 := Lib.hid (bt hb.out (bt ((Below.refl _ _).alloc (Nat.le_refl _) (.cells #[.string nm, .slice a1 kl cc] 46)) hb3)); clear hb3)
              go_region_held3 (fun w' => w'.cell? ⟨wr.heap.size, 0, none⟩ = some (.string nm))
                (first | go_keep | exact keep_c hb4 d0)
                (first
                  | (go_at_call 50; refine (called106 _ _).mono ?_; rintro e w4 ⟨rfl, rfl⟩)
                  | (go_at_call 49; refine (contains105 (ts.take k) k g o cap _ nm _ HTL.out (by omega) (by exact new1_at w3 (.string nm) 9 w3.heap.size rfl) (by exact HTT.out _ (bt X3.out ((Below.refl _ _).alloc (Nat.le_refl _) (.cells #[.string nm] 9)).drew))).mono ?_; rintro e w5 ⟨rfl, hb5⟩; rw [HM.out]; have d2 := keep_c hb5 (keep_c ((Below.refl _ _).alloc (Nat.le_refl _) (.cells #[.string nm] 9)).drew d0); have d3 := keep_c hb5 (keep_c ((Below.refl _ _).alloc (Nat.le_refl _) (.cells #[.string nm] 9)).drew d1); have X5 := Lib.hid (bt X3.out (bt ((Below.refl _ _).alloc (Nat.le_refl _) (.cells #[.string nm] 9)).drew hb5)); clear hb5))
              all_goals
                go_wp2
                go_ret
                exact ⟨by rw [HRV.out]; rfl, X5.out⟩
            · have u1 : decide ((kl : Int) < 1) = false := decide_eq_false (by omega)
              by_cases hk32 : 32 < kl
              · have u2 : decide ((32 : Int) < (kl : Int)) = true := decide_eq_true (by omega)
                have hRv : R = 2 := by rw [HS3.out, if_pos (.inr hk32)]
                have HRV := Lib.hid hRv
                clear hRv
                go_wp2_with (go_at_call 48; refine (htn.out _).mono ?_; rintro e w3 ⟨rfl, hb3⟩; have d0 := keep_c hb3 (World.cell?_alloc_at (w := wr) #[.string nm, .slice a1 kl cc] 46 wr.heap.size 0 rfl); have d1 := keep_c hb3 (World.cell?_alloc_at (w := wr) #[.string nm, .slice a1 kl cc] 46 wr.heap.size 1 rfl); have X3 := Lib.hid (bt hb.out (bt ((Below.refl _ _).alloc (Nat.le_refl _) (.cells #[.string nm, .slice a1 kl cc] 46)) hb3)); clear hb3)
                go_region_held3 (fun w' => w'.cell? ⟨wr.heap.size, 0, none⟩ = some (.string nm))
                  (first | go_keep | exact keep_c hb4 d0)
                  (first
                    | (go_at_call 50; refine (called106 _ _).mono ?_; rintro e w4 ⟨rfl, rfl⟩)
                    | (go_at_call 49; refine (contains105 (ts.take k) k g o cap _ nm _ HTL.out (by omega) (by exact new1_at w3 (.string nm) 9 w3.heap.size rfl) (by exact HTT.out _ (bt X3.out ((Below.refl _ _).alloc (Nat.le_refl _) (.cells #[.string nm] 9)).drew))).mono ?_; rintro e w5 ⟨rfl, hb5⟩; rw [HM.out]; have d2 := keep_c hb5 (keep_c ((Below.refl _ _).alloc (Nat.le_refl _) (.cells #[.string nm] 9)).drew d0); have d3 := keep_c hb5 (keep_c ((Below.refl _ _).alloc (Nat.le_refl _) (.cells #[.string nm] 9)).drew d1); have X5 := Lib.hid (bt X3.out (bt ((Below.refl _ _).alloc (Nat.le_refl _) (.cells #[.string nm] 9)).drew hb5)); clear hb5))
                all_goals
                  go_wp2
                  go_ret
                  exact ⟨by rw [HRV.out]; rfl, X5.out⟩
              · have u2 : decide ((32 : Int) < (kl : Int)) = false := decide_eq_false (by omega)
                have hRv : R = chkT (names (ts.take (k + 1))) (ts.drop (k + 1)) := by rw [HS3.out, if_neg (by omega)]
                have HRV := Lib.hid hRv
                clear hRv
                go_wp2_with (go_at_call 48; refine (htn.out _).mono ?_; rintro e w3 ⟨rfl, hb3⟩; have d0 := keep_c hb3 (World.cell?_alloc_at (w := wr) #[.string nm, .slice a1 kl cc] 46 wr.heap.size 0 rfl); have d1 := keep_c hb3 (World.cell?_alloc_at (w := wr) #[.string nm, .slice a1 kl cc] 46 wr.heap.size 1 rfl); have X3 := Lib.hid (bt hb.out (bt ((Below.refl _ _).alloc (Nat.le_refl _) (.cells #[.string nm, .slice a1 kl cc] 46)) hb3)); clear hb3)
                go_region_held3 (fun w' => w'.cell? ⟨wr.heap.size, 0, none⟩ = some (.string nm))
                  (first | go_keep | exact keep_c hb4 d0)
                  (first
                    | (go_at_call 50; refine (called106 _ _).mono ?_; rintro e w4 ⟨rfl, rfl⟩)
                    | (go_at_call 49; refine (contains105 (ts.take k) k g o cap _ nm _ HTL.out (by omega) (by exact new1_at w3 (.string nm) 9 w3.heap.size rfl) (by exact HTT.out _ (bt X3.out ((Below.refl _ _).alloc (Nat.le_refl _) (.cells #[.string nm] 9)).drew))).mono ?_; rintro e w5 ⟨rfl, hb5⟩; rw [HM.out]; have d2 := keep_c hb5 (keep_c ((Below.refl _ _).alloc (Nat.le_refl _) (.cells #[.string nm] 9)).drew d0); have d3 := keep_c hb5 (keep_c ((Below.refl _ _).alloc (Nat.le_refl _) (.cells #[.string nm] 9)).drew d1); have X5 := Lib.hid (bt X3.out (bt ((Below.refl _ _).alloc (Nat.le_refl _) (.cells #[.string nm] 9)).drew hb5)); clear hb5))
                all_goals
                  go_wp2
                  go_roundw
                  case rel => exact ⟨k + 1, by omega, by go_num, X5, HRV⟩
                  case measure => simp [intOf]; omega
      · go_wp2
        go_ret
        refine ⟨?_, hb.out⟩
        have hd : ts.drop k = [] := List.drop_eq_nil_iff.2 (by have := HN.out; omega)
        have hr' := hr.out
        rw [hd] at hr'
        rw [hr']
        rfl
end Go.Proofs.YtinabbdecmjcpaaGreatDoor.Script

namespace Go.Proofs.YtinabbdecmjcpaaGreatDoor.Script
open Go.RowKit Go.Deep Go.Proofs.YtinabbdecmjcpaaGreatDoor Go.Proofs.YtinabbdecmjcpaaGreatDoor.Plain Go.Proofs.YtinabbdecmjcpaaGreatDoor.Words Go.Proofs.YtinabbdecmjcpaaGreatDoor.Named Go.Proofs.YtinabbdecmjcpaaGreatDoor.Hex Go.Proofs.YtinabbdecmjcpaaGreatDoor.Number Go.Proofs.YtinabbdecmjcpaaGreatDoor.Queue Go.Proofs.YtinabbdecmjcpaaGreatDoor.Line Go.Proofs.YtinabbdecmjcpaaGreatDoor.Ev
set_option linter.unusedVariables false

abbrev setV (v : Value) (cap sess : Int) : Value := .agg #[v, .int .i64 cap, .int .i64 sess]
set_option maxRecDepth 100000 in
set_option maxHeartbeats 4000000 in
theorem proxy71 (ts : List Ten) (cap sess : Int) (v : Value) (w : World) (h : TRow w v ts) (hn : ts.length ≤ 1000000) (hs : ∀ t ∈ ts, t.name.size ≤ 1000000000000) :
    Calls Tryz.prog 14 #[setV v cap sess] w fun e w' => e = .returned (.int .i64 (checkS ts cap sess : Int)) ∧ Below w.heap.size w w' := by
  obtain ⟨a, c, rfl⟩ := trow_form h
  have hb1 : Below w.heap.size w (w.alloc (.cells #[.slice a ts.length c, .int .i64 cap, .int .i64 sess] 24)) := (Below.refl _ _).alloc (Nat.le_refl _) _
  have hz : (w.alloc (.cells #[.slice a ts.length c, .int .i64 cap, .int .i64 sess] 24)).heap.size = w.heap.size + 1 := by simp
  have hau := auth92 ts _ _ (h.below hb1) hn hs
  have HA := Lib.hid hau
  have HB := Lib.hid hb1
  have HR : Hid (checkS ts cap sess = if checkT ts ≠ 0 then checkT ts else if cap < 0 ∨ sess < 0 then 6 else 0) := Lib.hid rfl
  have g1 := World.cell?_alloc_at (w := w) #[.slice a ts.length c, .int .i64 cap, .int .i64 sess] 24 w.heap.size 1 rfl
  have g2 := World.cell?_alloc_at (w := w) #[.slice a ts.length c, .int .i64 cap, .int .i64 sess] 24 w.heap.size 2 rfl
  have G := Lib.hid (And.intro g1 g2)
  clear h hau hb1 hz g1 g2 hs
  generalize checkS ts cap sess = R at *
  generalize checkT ts = T at *
  go_enter Tryz.func14, Tryz.ntmps14
  go_wp2_with fail
  refine HA.out.mono ?_
  rintro e w2 ⟨rfl, hb2⟩
  have q1 := keep_c hb2 G.out.1
  have q2 := keep_c hb2 G.out.2
  have B2 := Lib.hid (bt HB.out hb2)
  clear hb2
  by_cases hT : T = 0
  · subst hT
    have HR2 : Hid (R = if cap < 0 ∨ sess < 0 then 6 else 0) := Lib.hid (by rw [HR.out, if_neg (by simp)])
    by_cases h1 : cap < 0
    · have t1 : decide (cap < 0) = true := decide_eq_true h1
      have hv : R = 6 := by rw [HR2.out, if_pos (.inl h1)]
      have HV := Lib.hid hv
      clear hv
      go_wp2
      go_ret
      exact ⟨by rw [HV.out]; rfl, B2.out⟩
    · have t1 : decide (cap < 0) = false := decide_eq_false h1
      by_cases h2 : sess < 0
      · have t2 : decide (sess < 0) = true := decide_eq_true h2
        have hv : R = 6 := by rw [HR2.out, if_pos (.inr h2)]
        have HV := Lib.hid hv
        clear hv
        go_wp2
        go_ret
        exact ⟨by rw [HV.out]; rfl, B2.out⟩
      · have t2 : decide (sess < 0) = false := decide_eq_false h2
        have hv : R = 0 := by rw [HR2.out, if_neg (by omega)]
        have HV := Lib.hid hv
        clear hv
        go_wp2
        go_ret
        exact ⟨by rw [HV.out]; rfl, B2.out⟩
  · have t : ((T : Int) != 0) = true := by rw [bne_iff_ne]; omega
    have hv : R = T := by rw [HR.out, if_pos hT]
    have HV := Lib.hid hv
    clear hv
    go_wp2
    go_ret
    exact ⟨by rw [HV.out]; rfl, B2.out⟩

set_option maxRecDepth 100000 in
set_option maxHeartbeats 4000000 in
theorem find96 (ts : List Ten) (n g o cap : Nat) (s : ByteArray) (w : World) (hN : n = ts.length) (hn : n ≤ 1000000) (hc : ∀ (i : Nat) (t : Ten), ts[i]? = some t → TenAt w g o i t) :
    Calls Tryz.prog 60 #[.slice (some ⟨g, o, none⟩) n cap, .string s] w fun e w' => ∃ r : Int, e = .returned (.int .i64 r) ∧ w = w' ∧ Found ts (L s) r := by
  have HC := Lib.hid hc
  have HN := Lib.hid hN
  clear hc hN
  go_enter Tryz.func60, Tryz.ntmps60
  go_wp2
  go_loopw [5] (fun v wr => ∃ k : Nat, k ≤ n ∧ v = .int .i64 (k : Int) ∧ w = wr ∧ Hid (∀ j (h : j < ts.length), j < k → L ts[j].name ≠ L s)) (fun v _ => n - (intOf v).toNat)
  case atStart => exact ⟨0, by omega, rfl, rfl, Lib.hid fun j h hj => absurd hj (by omega)⟩
  case round =>
    obtain ⟨k, hk, rfl, rfl, hb2⟩ := hrel
    by_cases hlt : k < n
    · have hl : k < ts.length := by have := HN.out; omega
      obtain ⟨c0, _⟩ := HC.out k ts[k] (List.getElem?_eq_getElem hl)
      have wk : IntKind.i64.wrap ((k : Int) + 1) = (k : Int) + 1 := IntWalk.i64_in _ (by omega)
      have hbs := beq_str ts[k].name s
      by_cases he : L ts[k].name = L s
      · rw [decide_eq_true he] at hbs
        have HE := Lib.hid he
        clear he
        generalize hnm : ts[k].name = nm at c0 hbs
        clear hnm
        go_wp2
        go_ret
        exact ⟨_, rfl, rfl, .inl ⟨k, hl, rfl, HE.out, fun j hj hjk => hb2.out j hj hjk⟩⟩
      · rw [decide_eq_false he] at hbs
        have HE := Lib.hid he
        clear he
        generalize hnm : ts[k].name = nm at c0 hbs
        clear hnm
        have t2 : ¬ nm.toList = s.toList := by rw [beq_eq_false_iff_ne] at hbs; exact hbs
        go_wp2
        go_roundw
        case rel =>
          refine ⟨k + 1, by omega, by go_num, by first | rfl | trivial, Lib.hid fun j h hj => ?_⟩
          by_cases e : j = k
          · subst e; exact HE.out
          · exact hb2.out j h (by omega)
        case measure => simp [intOf]; omega
    · go_wp2
      go_ret
      exact ⟨_, rfl, rfl, .inr ⟨rfl, fun j h => hb2.out j h (by have := HN.out; omega)⟩⟩
theorem found_lt (ts : List Ten) (k : Nat) (hk : k < ts.length) (r : Int) (h : Found ts (L ts[k].name) r) : decide (r < (k : Int)) = decide (L ts[k].name ∈ names (ts.take k)) := by
  rcases h with ⟨j, hj, rfl, e, hmin⟩ | ⟨rfl, hn⟩
  · have hjk : j ≤ k := by
      by_cases h : j ≤ k
      · exact h
      · exact absurd rfl (hmin k hk (by omega))
    by_cases hlt : j < k
    · rw [decide_eq_true (by omega), decide_eq_true]
      rw [← e]
      refine List.mem_map.2 ⟨ts[j], ?_, rfl⟩
      rw [List.mem_iff_getElem]
      exact ⟨j, by simp; omega, by simp⟩
    · have : j = k := by omega
      subst this
      rw [decide_eq_false (by omega), decide_eq_false]
      intro hm
      obtain ⟨t, ht, e2⟩ := List.mem_map.1 hm
      obtain ⟨i, hi, rfl⟩ := List.mem_iff_getElem.1 ht
      simp only [List.getElem_take] at e2
      simp at hi
      exact hmin i (by omega) (by omega) e2
  · exact absurd rfl (hn k hk)

set_option maxRecDepth 100000 in
set_option maxHeartbeats 8000000 in
theorem ref82 (ts : List Ten) (v : Value) (w : World) (h : TRow w v ts) (hn : ts.length ≤ 1000000) (hs : ∀ t ∈ ts, t.name.size ≤ 1000000000000) :
    Calls Tryz.prog 38 #[v] w fun e w' => e = .returned (.int .i64 (checkT ts : Int)) ∧ w = w' := by
  obtain ⟨a, cap, rfl⟩ := trow_form h
  have H := Lib.hid h
  have HS := Lib.hid hs
  clear h hs
  by_cases h8 : 8 < ts.length
  · have hR : checkT ts = 3 := by unfold checkT; rw [if_pos h8]
    rw [hR]
    have t1 : decide ((8 : Int) < (ts.length : Int)) = true := decide_eq_true (by omega)
    clear hR
    go_enter Tryz.func38, Tryz.ntmps38
    go_wp2
    go_ret
    exact ⟨rfl, rfl⟩
  · have hR : checkT ts = chkT [] ts := by unfold checkT; rw [if_neg h8]
    obtain ⟨R, hR'⟩ : ∃ R, R = checkT ts := ⟨_, rfl⟩
    rw [← hR']
    have HR : Hid (R = chkT (names (ts.take 0)) (ts.drop 0)) := Lib.hid (by rw [hR', hR]; rfl)
    have t1 : decide ((8 : Int) < (ts.length : Int)) = false := decide_eq_false (by omega)
    obtain ⟨n, hN⟩ : ∃ n, n = ts.length := ⟨_, rfl⟩
    rw [← hN] at t1 hn H h8 ⊢
    have HN := Lib.hid hN
    clear hR hR' hN
    go_enter Tryz.func38, Tryz.ntmps38
    go_wp2
    go_loopw [3] (fun v wr => ∃ k : Nat, k ≤ n ∧ v = .int .i64 (k : Int) ∧ w = wr ∧ Hid (R = chkT (names (ts.take k)) (ts.drop k))) (fun v _ => n - (intOf v).toNat)
    case atStart => exact ⟨0, by omega, rfl, rfl, HR⟩
    case round =>
      obtain ⟨k, hk, rfl, rfl, hr⟩ := hrel
      by_cases hlt : k < n
      · have hl : k < ts.length := by have := HN.out; omega
        obtain ⟨g, o, rfl, hcap, hten⟩ := trow_at H.out (by omega)
        obtain ⟨c0, kv, c1, hcr⟩ := hten k ts[k] (List.getElem?_eq_getElem hl)
        obtain ⟨a1, cc, rfl⟩ := crow_form hcr
        have wk : IntKind.i64.wrap ((k : Int) + 1) = (k : Int) + 1 := IntWalk.i64_in _ (by omega)
        have hstep := chkT_at ts k hl
        rw [← hr.out] at hstep
        have htn := Lib.hid (fun W => reftenant_any ts[k].name W (HS.out _ (List.getElem_mem hl)))
        have hfi := find96 ts n g o cap ts[k].name w HN.out hn hten
        have hfi2 : Calls Tryz.prog 60 #[.slice (some ⟨g, o, none⟩) n cap, .string ts[k].name] w fun e w' => ∃ r : Int, e = .returned (.int .i64 r) ∧ w = w' ∧ decide (r < (k : Int)) = decide (L ts[k].name ∈ names (ts.take k)) := by
          refine hfi.mono ?_
          rintro e w' ⟨r, h1, h2, h3⟩
          exact ⟨r, h1, h2, found_lt ts k hl r h3⟩
        have HFI := Lib.hid hfi2
        have HST := Lib.hid hstep
        clear hstep hten hcr hfi hfi2
        generalize hnm : ts[k].name = nm at *
        generalize hky : ts[k].key.length = kl at *
        clear hnm hky
        by_cases hnb : namedB 16 smallB lowB (L nm) = false
        · rw [hnb] at htn
          have hRv : R = 7 := by rw [HST.out, if_pos hnb]
          have HRV := Lib.hid hRv
          clear hRv hnb
          go_wp2_with (go_at_call 59; refine (htn.out _).mono ?_; rintro e w3 ⟨rfl, rfl⟩)
          go_ret
          refine ⟨by rw [HRV.out]; rfl, rfl⟩
        · have hnt : namedB 16 smallB lowB (L nm) = true := by simpa using hnb
          rw [hnt] at htn
          have hst2 : R = if L nm ∈ names (ts.take k) then 9 else if kl < 1 ∨ 32 < kl then 2 else chkT (names (ts.take (k + 1))) (ts.drop (k + 1)) := by rw [HST.out, if_neg hnb]
          have HS2 := Lib.hid hst2
          clear hst2 hnb hnt HST
          cases hM : decide (L nm ∈ names (ts.take k)) with
          | true =>
            rw [hM] at HFI
            have hRv : R = 9 := by rw [HS2.out, if_pos (of_decide_eq_true hM)]
            have HRV := Lib.hid hRv
            clear hM hRv
            go_wp2_with (first | (go_at_call 59; refine (htn.out _).mono ?_; rintro e w3 ⟨rfl, rfl⟩) | (go_at_call 60; refine HFI.out.mono ?_; rintro e w3 ⟨q, rfl, rfl, hq⟩))
            go_ret
            exact ⟨by rw [HRV.out]; rfl, rfl⟩
          | false =>
            rw [hM] at HFI
            have hst3 : R = if kl < 1 ∨ 32 < kl then 2 else chkT (names (ts.take (k + 1))) (ts.drop (k + 1)) := by rw [HS2.out, if_neg (of_decide_eq_false hM)]
            have HS3 := Lib.hid hst3
            clear hM hst3
            by_cases hk1 : kl < 1
            · have u1 : decide ((kl : Int) < 1) = true := decide_eq_true (by omega)
              have hRv : R = 2 := by rw [HS3.out, if_pos (.inl hk1)]
              have HRV := Lib.hid hRv
              clear hRv
              go_wp2_with (first | (go_at_call 59; refine (htn.out _).mono ?_; rintro e w3 ⟨rfl, rfl⟩) | (go_at_call 60; refine HFI.out.mono ?_; rintro e w3 ⟨q, rfl, rfl, hq⟩))
              go_ret
              exact ⟨by rw [HRV.out]; rfl, rfl⟩
            · have u1 : decide ((kl : Int) < 1) = false := decide_eq_false (by omega)
              by_cases hk32 : 32 < kl
              · have u2 : decide ((32 : Int) < (kl : Int)) = true := decide_eq_true (by omega)
                have hRv : R = 2 := by rw [HS3.out, if_pos (.inr hk32)]
                have HRV := Lib.hid hRv
                clear hRv
                go_wp2_with (first | (go_at_call 59; refine (htn.out _).mono ?_; rintro e w3 ⟨rfl, rfl⟩) | (go_at_call 60; refine HFI.out.mono ?_; rintro e w3 ⟨q, rfl, rfl, hq⟩))
                go_ret
                exact ⟨by rw [HRV.out]; rfl, rfl⟩
              · have u2 : decide ((32 : Int) < (kl : Int)) = false := decide_eq_false (by omega)
                have hRv : R = chkT (names (ts.take (k + 1))) (ts.drop (k + 1)) := by rw [HS3.out, if_neg (by omega)]
                have HRV := Lib.hid hRv
                clear hRv
                go_wp2_with (first | (go_at_call 59; refine (htn.out _).mono ?_; rintro e w3 ⟨rfl, rfl⟩) | (go_at_call 60; refine HFI.out.mono ?_; rintro e w3 ⟨q, rfl, rfl, hq⟩))
                go_roundw
                case rel => exact ⟨k + 1, by omega, by go_num, by first | rfl | trivial, HRV⟩
                case measure => simp [intOf]; omega
      · go_wp2
        go_ret
        refine ⟨?_, rfl⟩
        have hd : ts.drop k = [] := List.drop_eq_nil_iff.2 (by have := HN.out; omega)
        have hr' := hr.out
        rw [hd] at hr'
        rw [hr']
        rfl
set_option maxRecDepth 100000 in
set_option maxHeartbeats 4000000 in
theorem ref65 (ts : List Ten) (cap sess : Int) (v : Value) (w : World) (h : TRow w v ts) (hn : ts.length ≤ 1000000) (hs : ∀ t ∈ ts, t.name.size ≤ 1000000000000) :
    Calls Tryz.prog 22 #[setV v cap sess] w fun e w' => e = .returned (.int .i64 (checkS ts cap sess : Int)) ∧ Below w.heap.size w w' := by
  obtain ⟨a, c, rfl⟩ := trow_form h
  have hb1 : Below w.heap.size w (w.alloc (.cells #[.slice a ts.length c, .int .i64 cap, .int .i64 sess] 24)) := (Below.refl _ _).alloc (Nat.le_refl _) _
  have hau := ref82 ts _ _ (h.below hb1) hn hs
  have HA := Lib.hid hau
  have HB := Lib.hid hb1
  have HR : Hid (checkS ts cap sess = if checkT ts ≠ 0 then checkT ts else if cap < 0 ∨ sess < 0 then 6 else 0) := Lib.hid rfl
  clear h hau hb1 hs
  generalize checkS ts cap sess = R at *
  generalize checkT ts = T at *
  go_enter Tryz.func22, Tryz.ntmps22
  go_wp2_with fail
  refine HA.out.mono ?_
  rintro e w2 ⟨rfl, rfl⟩
  by_cases hT : T = 0
  · subst hT
    have HR2 : Hid (R = if cap < 0 ∨ sess < 0 then 6 else 0) := Lib.hid (by rw [HR.out, if_neg (by simp)])
    by_cases h1 : cap < 0
    · have t1 : decide (cap < 0) = true := decide_eq_true h1
      have hv : R = 6 := by rw [HR2.out, if_pos (.inl h1)]
      have HV := Lib.hid hv
      clear hv
      go_wp2
      go_ret
      exact ⟨by rw [HV.out]; rfl, HB.out⟩
    · have t1 : decide (cap < 0) = false := decide_eq_false h1
      by_cases h2 : sess < 0
      · have t2 : decide (sess < 0) = true := decide_eq_true h2
        have hv : R = 6 := by rw [HR2.out, if_pos (.inr h2)]
        have HV := Lib.hid hv
        clear hv
        go_wp2
        go_ret
        exact ⟨by rw [HV.out]; rfl, HB.out⟩
      · have t2 : decide (sess < 0) = false := decide_eq_false h2
        have hv : R = 0 := by rw [HR2.out, if_neg (by omega)]
        have HV := Lib.hid hv
        clear hv
        go_wp2
        go_ret
        exact ⟨by rw [HV.out]; rfl, HB.out⟩
  · have t : ((T : Int) != 0) = true := by rw [bne_iff_ne]; omega
    have hv : R = T := by rw [HR.out, if_pos hT]
    have HV := Lib.hid hv
    clear hv
    go_wp2
    go_ret
    exact ⟨by rw [HV.out]; rfl, HB.out⟩
end Go.Proofs.YtinabbdecmjcpaaGreatDoor.Script
