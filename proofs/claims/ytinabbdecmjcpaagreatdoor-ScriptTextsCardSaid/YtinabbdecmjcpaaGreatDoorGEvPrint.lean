/- The contract of the reference's Print of layer 39. -/
import Derived.Test.YtinabbdecmjcpaaGreatDoorGEvLineA
import Derived.Test.YtinabbdecmjcpaaGreatDoorGEvLineB
import Derived.Test.YtinabbdecmjcpaaGreatDoorGEvLineC
namespace Go.Proofs.YtinabbdecmjcpaaGreatDoor.Ev
open Go.RowKit Go.Proofs.YtinabbdecmjcpaaGreatDoor Go.Proofs.YtinabbdecmjcpaaGreatDoor.Plain Go.Proofs.YtinabbdecmjcpaaGreatDoor.Words Go.Proofs.YtinabbdecmjcpaaGreatDoor.Named Go.Proofs.YtinabbdecmjcpaaGreatDoor.Hex Go.Proofs.YtinabbdecmjcpaaGreatDoor.Number
open Go.Lib (decDigits)
set_option linter.unusedVariables false

/-- An event as a value, its bytes aside. -/
abbrev evV (e : Ev) (v : Value) : Value := .agg #[.int .i64 e.kind, .int .i64 e.session, .int .i64 e.stream, .string e.tenant, .int .u64 (e.n : Int), .int .i64 e.m, .int .u64 (e.bits : Int), v]
/-- What is known of the numbers of an event, and of its lengths. -/
structure EvOk (e : Ev) : Prop where
  fits : Fits e
  tenant : e.tenant.size ≤ 1000000
  data : e.data.length ≤ 1000000
theorem brow_nil (w : World) : BRow w (.slice none 0 0) [] := .inl ⟨rfl, none, 0, rfl⟩
def LinePost (e : Ev) (w : World) (r : Ending) (w' : World) : Prop := ∃ vb, r = .returned (.tuple #[.string (S (textOf e)), evV (bare e) vb]) ∧ BRow w' vb (bare e).data ∧ Below w.heap.size w w'

theorem line39 (e : Ev) (v : Value) (w : World) (hk : inR e.kind = true) (h0 : 0 ≤ e.session) (h1 : 0 ≤ e.stream) (h2 : 0 ≤ e.m) (ok : EvOk e) (hv : BRow w v e.data) : Calls Tryz.prog 40 #[evV e v] w (LinePost e w) := by
  obtain ⟨j, hj, a1, a2⟩ := inR_nat hk
  obtain ⟨k, se, st, tn, n, m, b, d⟩ := e
  simp only at hj h0 h1 h2 hv
  subst hj
  have f1 : se ≤ 9223372036854775807 := ok.fits.session
  have f2 : st ≤ 9223372036854775807 := ok.fits.stream
  have f3 : m ≤ 9223372036854775807 := ok.fits.m
  have f4 : n < 18446744073709551616 := ok.fits.n
  have f5 : b < 18446744073709551616 := ok.fits.bits
  have f6 : tn.size ≤ 1000000 := ok.tenant
  have f7 : d.length ≤ 1000000 := ok.data
  rcases in15 j a1 a2 with rfl | rfl | rfl | rfl | rfl | rfl | rfl | rfl | rfl | rfl | rfl | rfl | rfl | rfl | rfl
  · exact (line1 se st tn n m b v w h2 f3).mono fun _ _ ⟨he, hb⟩ => ⟨_, he, brow_nil _, hb⟩
  · exact (line2 se st tn n m b v d w h0 f1 f7 hv).mono fun _ _ ⟨he, hb⟩ => ⟨_, he, brow_below hb hv, hb⟩
  · exact (line3 se st tn n m b v d w h0 f1 f7 hv).mono fun _ _ ⟨he, hb⟩ => ⟨_, he, brow_below hb hv, hb⟩
  · exact (line4 se st tn n m b v w h0 f1).mono fun _ _ ⟨he, hb⟩ => ⟨_, he, brow_nil _, hb⟩
  · exact (line5 se st tn n m b v d w h0 f1 h1 f2 f7 hv).mono fun _ _ ⟨he, hb⟩ => ⟨_, he, brow_below hb hv, hb⟩
  · exact (line6 se st tn n m b v w h0 f1 h1 f2).mono fun _ _ ⟨he, hb⟩ => ⟨_, he, brow_nil _, hb⟩
  · exact (line7 se st tn n m b v w f6 f5).mono fun _ _ ⟨he, hb⟩ => ⟨_, he, brow_nil _, hb⟩
  · exact (line8 se st tn n m b v w).mono fun _ _ ⟨he, hb⟩ => ⟨_, he, brow_nil _, hb⟩
  · exact (line9 se st tn n m b v w).mono fun _ _ ⟨he, hb⟩ => ⟨_, he, brow_nil _, hb⟩
  · exact (line10 se st tn n m b v w f6 f4).mono fun _ _ ⟨he, hb⟩ => ⟨_, he, brow_nil _, hb⟩
  · exact (line11 se st tn n m b v w f6 f5).mono fun _ _ ⟨he, hb⟩ => ⟨_, he, brow_nil _, hb⟩
  · exact (line12 se st tn n m b v w f6).mono fun _ _ ⟨he, hb⟩ => ⟨_, he, brow_nil _, hb⟩
  · exact (line13 se st tn n m b v w f6 f4).mono fun _ _ ⟨he, hb⟩ => ⟨_, he, brow_nil _, hb⟩
  · exact (line14 se st tn n m b v w).mono fun _ _ ⟨he, hb⟩ => ⟨_, he, brow_nil _, hb⟩
  · exact (line15 se st tn n m b v w f4 h2 f3).mono fun _ _ ⟨he, hb⟩ => ⟨_, he, brow_nil _, hb⟩

theorem cast_beq (n n' : Nat) : ((n : Int) == (n' : Int)) = (n == n') := by
  rw [Bool.eq_iff_iff, beq_iff_eq, beq_iff_eq]; omega
/-- Same, of two events. -/
theorem sameEv (a b : Ev) (va vb : Value) (w : World) (ha : a.data.length ≤ 1000000000000) (hb : b.data.length ≤ 1000000000000) (hva : BRow w va a.data) (hvb : BRow w vb b.data) :
    Calls Tryz.prog 30 #[evV a va, evV b vb] w fun e w' => e = .returned (.bool (sameB a b)) ∧ Below w.heap.size w w' := by
  have h := same39 a.kind a.session a.stream a.tenant (a.n : Int) a.m (a.bits : Int) va a.data b.kind b.session b.stream b.tenant (b.n : Int) b.m (b.bits : Int) vb b.data w ha hb hva hvb
  rw [cast_beq, cast_beq] at h
  exact h
theorem bare_data (e : Ev) : (bare e).data.length ≤ e.data.length := by
  have key : ∀ (ss : List Slot) (x : Ev), x.data.length ≤ e.data.length → (ss.foldl (copyF e) x).data.length ≤ e.data.length := by
    intro ss
    induction ss with
    | nil => exact fun x h => h
    | cons s ss ih =>
      intro x h
      refine ih _ ?_
      cases s <;> first | exact h | exact Nat.le_refl _
  exact key _ _ (Nat.zero_le _)
theorem pat_known (k : Nat) : ∀ c ∈ patN k, known c = true := by
  intro c hc
  unfold patN at hc
  obtain ⟨s, _, rfl⟩ := List.mem_map.1 hc
  cases s <;> decide
theorem word_ne (j : Nat) (h1 : 1 ≤ j) (h2 : j ≤ 15) : wordN j ≠ [] ∧ (wordN j).length ≤ 10 ∧ (patN j).length ≤ 3 := by
  rcases in15 j h1 h2 with rfl | rfl | rfl | rfl | rfl | rfl | rfl | rfl | rfl | rfl | rfl | rfl | rfl | rfl | rfl <;> exact ⟨by decide, by decide, by decide⟩
theorem getT_len (e : Ev) (ok : EvOk e) (h0 : 0 ≤ e.session) (h1 : 0 ≤ e.stream) (h2 : 0 ≤ e.m) (s : Slot) : (getT e s).length ≤ 2000001 := by
  have d20 : ∀ n : Nat, n < 18446744073709551616 → (decDigits n).length ≤ 2000001 := fun n hn => by have := dec_len n hn; omega
  have hf := ok.fits
  have ht := ok.tenant
  have hd := ok.data
  cases s
  · exact d20 _ (by have := hf.session; omega)
  · exact d20 _ (by have := hf.stream; omega)
  · exact d20 _ (by have := hf.m; omega)
  · show (L e.tenant).length ≤ _; rw [L_len]; omega
  · exact d20 _ hf.n
  · exact d20 _ hf.bits
  · show (hexOf e.data).length ≤ _
    unfold hexOf
    split
    · simp
    · rw [hexs_len]; omega
theorem join_bd : ∀ (ws : List (List UInt8)) (B : Nat), (∀ w ∈ ws, w.length ≤ B) → (join ws).length ≤ ws.length * (B + 1)
  | [], B, _ => by simp [join]
  | [w], B, h => by
    have := h w (by simp)
    show w.length ≤ _
    simp; omega
  | w :: x :: ws, B, h => by
    have h1 := h w (by simp)
    have ih := join_bd (x :: ws) B (fun y hy => h y (by simp only [List.mem_cons] at hy ⊢; exact .inr hy))
    rw [join_cons, List.length_append, List.length_cons, List.length_cons, Nat.add_mul]
    omega
theorem text_len (e : Ev) (ok : EvOk e) (h0 : 0 ≤ e.session) (h1 : 0 ≤ e.stream) (h2 : 0 ≤ e.m) (hk : inR e.kind = true) : (textOf e).length ≤ 100000000 := by
  obtain ⟨j, hj, a1, a2⟩ := inR_nat hk
  have hjn : e.kind.toNat = j := by omega
  obtain ⟨_, hw, hp⟩ := word_ne j a1 a2
  unfold textOf
  rw [hjn]
  have := join_bd (wordN j :: (slotsN j).map (getT e)) 2000001 (fun w hw' => by
    rcases List.mem_cons.1 hw' with rfl | hw'
    · omega
    · obtain ⟨s, _, rfl⟩ := List.mem_map.1 hw'
      exact getT_len e ok h0 h1 h2 s)
  rw [pat_len] at hp
  have hl : (wordN j :: (slotsN j).map (getT e)).length ≤ 4 := by simp; omega
  have : (wordN j :: (slotsN j).map (getT e)).length * (2000001 + 1) ≤ 4 * (2000001 + 1) := Nat.mul_le_mul_right _ hl
  omega

def PrintPost (e : Ev) (w : World) (r : Ending) (w' : World) : Prop := r = .returned (.tuple #[.string (S ((printOf e).getD [])), .bool (printOf e).isSome]) ∧ Below w.heap.size w w'

theorem print_none1 (e : Ev) (h : inR e.kind = false ∨ e.session < 0 ∨ e.stream < 0 ∨ e.m < 0) : printOf e = none := by unfold printOf; rw [if_pos h]

section
variable (k se st : Int) (tn : ByteArray) (n : Nat) (m : Int) (b : Nat) (av : Option Addr) (ld cv : Nat) (w : World)
theorem box_below : Below w.heap.size w (w.alloc (.cells #[.int .i64 k, .int .i64 se, .int .i64 st, .string tn, .int .u64 (n : Int), .int .i64 m, .int .u64 (b : Int), .slice av ld cv] 44)) := (Below.refl _ _).alloc (Nat.le_refl _) _
set_option maxRecDepth 100000 in
theorem print_out (hk : inR k = false) : Calls Tryz.prog 23 #[.agg #[.int .i64 k, .int .i64 se, .int .i64 st, .string tn, .int .u64 (n : Int), .int .i64 m, .int .u64 (b : Int), .slice av ld cv]] w fun r w' => r = .returned (.tuple #[.string ⟨#[]⟩, .bool false]) ∧ Below w.heap.size w w' := by
  have hW := Lib.hid (word39 k)
  rw [show wordOf k = [] by unfold wordOf; rw [hk]; rfl] at hW
  have BA := Lib.hid (box_below k se st tn n m b av ld cv w)
  clear hk
  go_enter Tryz.func23, Tryz.ntmps23
  go_wp2_with (go_at_call 39; refine (hW.out _).mono ?_; rintro r w1 ⟨rfl, hb1⟩)
  go_ret2
  exact ⟨rfl, BA.out.trans (hb1.mono BA.out.size)⟩
set_option maxRecDepth 100000 in
theorem print_neg (y : ByteArray) (e1 : y.toList.isEmpty = false) (e2 : (y.toList == []) = false) (hW0 : ∀ W, Calls Tryz.prog 39 #[.int .i64 k] W fun e w' => e = .returned (.string y) ∧ Below W.heap.size W w') (hneg : se < 0 ∨ st < 0 ∨ m < 0) :
    Calls Tryz.prog 23 #[.agg #[.int .i64 k, .int .i64 se, .int .i64 st, .string tn, .int .u64 (n : Int), .int .i64 m, .int .u64 (b : Int), .slice av ld cv]] w fun r w' => r = .returned (.tuple #[.string ⟨#[]⟩, .bool false]) ∧ Below w.heap.size w w' := by
  have hW := Lib.hid hW0
  have HB := Lib.hid (C8.new w (.int .i64 k) (.int .i64 se) (.int .i64 st) (.string tn) (.int .u64 (n : Int)) (.int .i64 m) (.int .u64 (b : Int)) (.slice av ld cv) 44)
  have BA := Lib.hid (box_below k se st tn n m b av ld cv w)
  clear hW0
  have hcase : se < 0 ∨ (0 ≤ se ∧ st < 0) ∨ (0 ≤ se ∧ 0 ≤ st ∧ m < 0) := by omega
  clear hneg
  rcases hcase with n1 | ⟨n1, n2⟩ | ⟨n1, n2, n3⟩
  all_goals
    go_enter Tryz.func23, Tryz.ntmps23
    go_wp2_with fail
    refine (hW.out _).mono ?_
    rintro r w1 ⟨rfl, hb1⟩
    obtain ⟨x0, x1, x2, x3, x4, x5, x6, x7, xf⟩ := HB.out.below hb1
    clear xf
    go_wp2_with fail
    go_ret2
    exact ⟨rfl, BA.out.trans (hb1.mono BA.out.size)⟩
end
end Go.Proofs.YtinabbdecmjcpaaGreatDoor.Ev
