/- What script.Read keeps between two rounds, and what its answer says. -/
import Derived.Test.YtinabbdecmjcpaaGreatDoorG16
import Derived.Test.YtinabbdecmjcpaaGreatDoorG17
import Derived.Test.YtinabbdecmjcpaaGreatDoorG10
namespace Go.Proofs.YtinabbdecmjcpaaGreatDoor.Script
open Go.RowKit Go.Shelf Go.Deep Go.Proofs.YtinabbdecmjcpaaGreatDoor Go.Proofs.YtinabbdecmjcpaaGreatDoor.Plain Go.Proofs.YtinabbdecmjcpaaGreatDoor.Words Go.Proofs.YtinabbdecmjcpaaGreatDoor.Named Go.Proofs.YtinabbdecmjcpaaGreatDoor.Hex Go.Proofs.YtinabbdecmjcpaaGreatDoor.Number Go.Proofs.YtinabbdecmjcpaaGreatDoor.Queue Go.Proofs.YtinabbdecmjcpaaGreatDoor.Line Go.Proofs.YtinabbdecmjcpaaGreatDoor.Ev
attribute [local go_sem] Oper.semAt_some
set_option linter.unusedVariables false

/-- What has been read of lines that came. -/
theorem fold_len : ∀ (xs : List ByteArray) (st st' : Rd), foldO xs st = some st' → st'.tens.length + st'.evs.length ≤ st.tens.length + st.evs.length + xs.length
  | [], st, st', h => by cases Option.some.inj h; simp
  | x :: xs, st, st', h => by
    simp only [foldO] at h
    cases hl : lineOf st x with
    | none => rw [hl] at h; cases h
    | some s1 =>
      rw [hl] at h
      have h1 := fold_len xs s1 st' h
      have h2 : s1.tens.length + s1.evs.length ≤ st.tens.length + st.evs.length + 1 := by
        unfold lineOf takeOf at hl
        split at hl
        · repeat' split at hl
          all_goals (cases hl <;> (try simp) <;> (try omega))
        · cases hl
      simp
      omega
/-- What is known of all that was read. -/
structure Fine (M : Nat) (st : Rd) : Prop where
  nm : ∀ t ∈ st.tens, namedB 16 smallB lowB (L t.name) = true
  c0 : 0 ≤ st.cap
  c1 : st.cap ≤ 2147483647
  s0 : 0 ≤ st.sess
  s1 : st.sess ≤ 2147483647
  ev : ∀ e ∈ st.evs, ∃ l, parseOf l = (e, 0) ∧ l.length ≤ M
  ky : ∀ t ∈ st.tens, t.key.length ≤ M
theorem fields2t (l wd : List UInt8) (h : checkOf (words l) wd [116, 98] = 0) : ∃ f g, fieldsOf (words l) [116, 98] = [f, g] ∧ namedB 16 smallB lowB f.text = true ∧ g.data.length ≤ l.length := by
  obtain ⟨f2, g2, e2, hg2⟩ := fields2 l wd h
  obtain ⟨xs, hw, hlen, hs⟩ := check_zero _ _ _ h
  rw [hw]
  match xs, hlen with
  | [x, y], _ =>
    obtain ⟨a, _⟩ := signs_cons _ _ _ _ hs
    rw [hw] at e2
    refine ⟨_, _, rfl, ?_, ?_⟩
    · obtain ⟨e, b⟩ := err_t x a
      rw [e]
      exact b
    · cases e2
      exact hg2
theorem fine_take (M : Nat) (st st' : Rd) (l : List UInt8) (hl : l.length ≤ M) (h : takeOf st l = some st') (hf : Fine M st) : Fine M st' := by
  unfold takeOf at h
  split at h
  · cases Option.some.inj h; exact hf
  · split at h
    · split at h
      · cases h
      · rename_i hc
        have h0 : checkOf (words l) wTen [116, 98] = 0 := by
          by_cases e : checkOf (words l) wTen [116, 98] = 0
          · exact e
          · exact absurd (.inl e) hc
        obtain ⟨f, g, e, hn, hg⟩ := fields2t _ _ h0
        rw [e] at h
        cases Option.some.inj h
        refine ⟨fun t ht => ?_, hf.c0, hf.c1, hf.s0, hf.s1, hf.ev, fun t ht => ?_⟩
        · rcases List.mem_append.1 ht with ht | ht
          · exact hf.nm t ht
          · rw [List.mem_singleton.1 ht]; exact hn
        · rcases List.mem_append.1 ht with ht | ht
          · exact hf.ky t ht
          · rw [List.mem_singleton.1 ht]; exact Nat.le_trans hg hl
    · split at h
      · split at h
        · cases h
        · rename_i hc
          have h0 : checkOf (words l) wCap [115] = 0 := by
            by_cases e : checkOf (words l) wCap [115] = 0
            · exact e
            · exact absurd (.inl e) hc
          obtain ⟨f, e, hn⟩ := fields1 _ _ h0
          rw [e] at h
          cases Option.some.inj h
          exact ⟨hf.nm, by show (0 : Int) ≤ (f.n : Int); omega, by show (f.n : Int) ≤ 2147483647; omega, hf.s0, hf.s1, hf.ev, hf.ky⟩
      · split at h
        · split at h
          · cases h
          · rename_i hc
            have h0 : checkOf (words l) wSes [115] = 0 := by
              by_cases e : checkOf (words l) wSes [115] = 0
              · exact e
              · exact absurd (.inl e) hc
            obtain ⟨f, e, hn⟩ := fields1 _ _ h0
            rw [e] at h
            cases Option.some.inj h
            exact ⟨hf.nm, hf.c0, hf.c1, by show (0 : Int) ≤ (f.n : Int); omega, by show (f.n : Int) ≤ 2147483647; omega, hf.ev, hf.ky⟩
        · split at h
          · cases h
          · rename_i hc
            cases Option.some.inj h
            refine ⟨hf.nm, hf.c0, hf.c1, hf.s0, hf.s1, fun e he => ?_, hf.ky⟩
            rcases List.mem_append.1 he with he | he
            · exact hf.ev e he
            · refine ⟨l, ?_, hl⟩
              rw [List.mem_singleton.1 he]
              have : (parseOf l).2 = 0 := by simpa using hc
              rw [← this]
theorem fine_fold (M : Nat) : ∀ (xs : List ByteArray) (st st' : Rd), (∀ x ∈ xs, x.size ≤ M) → foldO xs st = some st' → Fine M st → Fine M st'
  | [], st, st', _, h, hf => by cases Option.some.inj h; exact hf
  | x :: xs, st, st', hM, h, hf => by
    simp only [foldO] at h
    cases hl : lineOf st x with
    | none => rw [hl] at h; cases h
    | some s1 =>
      rw [hl] at h
      refine fine_fold M xs s1 st' (fun y hy => hM y (by simp [hy])) h ?_
      unfold lineOf at hl
      split at hl
      · refine fine_take M _ _ _ ?_ hl hf
        have := hM x (by simp)
        rw [L_len, ByteArray.size_extract]
        omega
      · cases hl
theorem fine0 (M : Nat) : Fine M rd0 := ⟨(fun t h => by cases h), by decide, by decide, by decide, by decide, (fun e h => by cases h), (fun t h => by cases h)⟩
theorem named_size (x : ByteArray) (h : namedB 16 smallB lowB (L x) = true) : x.size ≤ 16 := by
  by_cases e : (L x).length ≤ 16
  · rwa [L_len] at e
  · rw [named_long _ _ _ _ (by omega)] at h; cases h
theorem below_tr {n : Nat} {w W1 W2 : World} (h2 : Below n W1 W2) (h1 : Below n w W1) : Below n w W2 := ⟨h2.os.trans h1.os, h2.tape.trans h1.tape, h2.output.trans h1.output, Nat.le_trans h1.size h2.size, fun k hk => (h2.block k hk).trans (h1.block k hk)⟩
/-- The blocks of a call of Read's that the reader does not write. -/
def exs (N : Nat) : List Nat := [N, N + 1, N + 2, N + 3, N + 5, N + 6]
/-- A result's cell, or a count's. -/
structure C1 (w : World) (x : Nat) (v : Value) : Prop where
  c : w.cell? ⟨x, 0, none⟩ = some v
  f : w.frozen? ⟨x, 0, none⟩ = false
theorem C1.same {w w' : World} {x : Nat} {v : Value} (h : C1 w x v) (hb : w'.heap[x]? = w.heap[x]?) : C1 w' x v :=
  ⟨(World.cell?_of_block (w := w) (a := ⟨x, 0, none⟩) hb).trans h.c, (World.frozen?_of_block (w := w) (a := ⟨x, 0, none⟩) hb).trans h.f⟩
structure C3 (w : World) (x : Nat) (a0 a1 a2 : Value) : Prop where
  c0 : w.cell? ⟨x, 0, none⟩ = some a0
  c1 : w.cell? ⟨x, 1, none⟩ = some a1
  c2 : w.cell? ⟨x, 2, none⟩ = some a2
  f : ∀ o, w.frozen? ⟨x, o, none⟩ = false
theorem C3.same {w w' : World} {x : Nat} {a0 a1 a2 : Value} (h : C3 w x a0 a1 a2) (hb : w'.heap[x]? = w.heap[x]?) : C3 w' x a0 a1 a2 :=
  ⟨(World.cell?_of_block (w := w) (a := ⟨x, 0, none⟩) hb).trans h.c0, (World.cell?_of_block (w := w) (a := ⟨x, 1, none⟩) hb).trans h.c1, (World.cell?_of_block (w := w) (a := ⟨x, 2, none⟩) hb).trans h.c2, fun o => (World.frozen?_of_block (w := w) (a := ⟨x, o, none⟩) hb).trans (h.f o)⟩
/-- Read's own blocks: four results, the count. -/
structure Own5 (w : World) (N : Nat) (a0 a1 a2 a3 a4 a5 a6 : Value) : Prop where
  s : C3 w N a0 a1 a2
  e : C1 w (N + 1) a3
  n : C1 w (N + 2) a4
  er : C1 w (N + 3) a5
  k : C1 w (N + 5) a6
theorem Own5.same {w w' : World} {N : Nat} {a0 a1 a2 a3 a4 a5 a6 : Value} (h : Own5 w N a0 a1 a2 a3 a4 a5 a6) (hb : ∀ b ∈ exs N, w'.heap[b]? = w.heap[b]?) : Own5 w' N a0 a1 a2 a3 a4 a5 a6 :=
  ⟨h.s.same (hb _ (by simp [exs])), h.e.same (hb _ (by simp [exs])), h.n.same (hb _ (by simp [exs])), h.er.same (hb _ (by simp [exs])), h.k.same (hb _ (by simp [exs]))⟩
theorem Own5.kept {w w' : World} {N M : Nat} {a0 a1 a2 a3 a4 a5 a6 : Value} (h : Own5 w N a0 a1 a2 a3 a4 a5 a6) (hk : Kept (N + 6) M w w') : Own5 w' N a0 a1 a2 a3 a4 a5 a6 := by
  have one : ∀ (x : Nat) (v : Value), C1 w x v → x ≠ N + 6 → C1 w' x v := fun x v hx hn => ⟨hk.cell hx.c hn, hk.frozen hx.c hn hx.f⟩
  exact ⟨⟨hk.cell h.s.c0 (by omega), hk.cell h.s.c1 (by omega), hk.cell h.s.c2 (by omega), fun o => hk.frozen h.s.c0 (by omega) (h.s.f o)⟩, one _ _ h.e (by omega), one _ _ h.n (by omega), one _ _ h.er (by omega), one _ _ h.k (by omega)⟩

/-- Between two rounds. -/
def RI (w : World) (pre : List ByteArray) (W : World) : Prop :=
  (∃ st, foldO pre rd0 = some st ∧ RdAt W w.heap.size (exs w.heap.size) (w.heap.size + 4) st) ∧ Own5 W w.heap.size (.slice none 0 0) (.int .i64 0) (.int .i64 0) (.slice none 0 0) (.int .i64 0) (.int .i64 0) (.int .i64 (pre.length : Int)) ∧ Below w.heap.size w W
/-- A round has left. -/
def RX (w : World) (pre : List ByteArray) (W : World) : Prop :=
  (∃ p x st, pre = p ++ [x] ∧ foldO p rd0 = some st ∧ lineOf st x = none) ∧ (∃ a6, Own5 W w.heap.size (.slice none 0 0) (.int .i64 0) (.int .i64 0) (.slice none 0 0) (.int .i64 (pre.length : Int)) (.int .i64 2) a6) ∧ Below w.heap.size w W
theorem RI.kept {w : World} {M : Nat} (hM : w.heap.size ≤ M) {pre : List ByteArray} {W W' : World} (h : RI w pre W) (hk : Kept (w.heap.size + 6) M W W') : RI w pre W' := by
  obtain ⟨⟨st, h1, h2⟩, h3, h4⟩ := h
  exact ⟨⟨st, h1, h2.ck ((CK.of_kept hk).mono (by simp [exs]))⟩, h3.kept hk, hk.below h4 (Nat.le_refl _) (by omega) hM⟩
theorem RX.kept {w : World} {M : Nat} (hM : w.heap.size ≤ M) {pre : List ByteArray} {W W' : World} (h : RX w pre W) (hk : Kept (w.heap.size + 6) M W W') : RX w pre W' := by
  obtain ⟨h1, ⟨a6, h3⟩, h4⟩ := h
  exact ⟨h1, ⟨a6, h3.kept hk⟩, hk.below h4 (Nat.le_refl _) (by omega) hM⟩

theorem flatE_get : ∀ (es : List Ev) (ds : List Value) (i : Nat) (e : Ev) (d : Value), es[i]? = some e → ds[i]? = some d → ∀ j u, [Value.int .i64 e.kind, .int .i64 e.session, .int .i64 e.stream, .string e.tenant, .int .u64 (e.n : Int), .int .i64 e.m, .int .u64 (e.bits : Int), d][j]? = some u → (flatE es ds)[i * 8 + j]? = some u
  | [], _, i, e, d, h, _, _, _, _ => by simp at h
  | _ :: _, [], i, e, d, _, h, _, _, _ => by simp at h
  | f :: es, c :: ds, 0, e, d, h, k, j, u, hj => by
    simp at h k
    subst h k
    have hjl : j < 8 := by
      have := (List.getElem?_eq_some_iff.1 hj).1
      simpa using this
    rw [Nat.zero_mul, Nat.zero_add]
    show ([Value.int .i64 f.kind, .int .i64 f.session, .int .i64 f.stream, .string f.tenant, .int .u64 (f.n : Int), .int .i64 f.m, .int .u64 (f.bits : Int), c] ++ flatE es ds)[j]? = some u
    rw [List.getElem?_append_left (by simpa using hjl)]
    exact hj
  | f :: es, c :: ds, i + 1, e, d, h, k, j, u, hj => by
    have := flatE_get es ds i e d (by simpa using h) (by simpa using k) j u hj
    rw [show (i + 1) * 8 + j = i * 8 + j + 8 by omega]
    exact this
theorem own_erow {w : World} {n0 : Nat} {v : Value} {es : List Ev} {ds : List Value} {bd : Nat → Prop} (ho : w.ownsRow n0 44 8 v es.length (flatE es ds)) (hr : Rows w (es.map Ev.data) ds bd) : ERow w v es := by
  rcases ho.2 with ⟨rfl, h0⟩ | ⟨g, cap, cur, rfl, hB, hg, hn, _⟩
  · exact .inl ⟨List.length_eq_zero_iff.1 h0, none, 0, rfl⟩
  · refine .inr ⟨g, 0, cap, rfl, fun i e he => ?_⟩
    have hi : i < es.length := (List.getElem?_eq_some_iff.1 he).1
    have hik : i < ds.length := by rw [hr.1]; simpa using hi
    obtain ⟨d, hd⟩ : ∃ d, ds[i]? = some d := ⟨_, List.getElem?_eq_getElem hik⟩
    have q := flatE_get es ds i e d he hd
    have c : ∀ j u, j < 8 → [Value.int .i64 e.kind, .int .i64 e.session, .int .i64 e.stream, .string e.tenant, .int .u64 (e.n : Int), .int .i64 e.m, .int .u64 (e.bits : Int), d][j]? = some u → w.cell? ⟨g, i * 8 + j, none⟩ = some u := fun j u hj hu => (World.ownsRow.cellAt ho (i * 8 + j) (by omega)).trans (q j u hu)
    rw [EvIn, Nat.zero_add]
    exact ⟨d, c 0 _ (by decide) rfl, c 1 _ (by decide) rfl, c 2 _ (by decide) rfl, c 3 _ (by decide) rfl, c 4 _ (by decide) rfl, c 5 _ (by decide) rfl, c 6 _ (by decide) rfl, c 7 _ (by decide) rfl, (hr.2 i e.data d (by simp [he]) hd).1⟩
/-- At which line a text errs. -/
def ErrAt (l : List UInt8) (k : Nat) : Prop :=
  (∃ p x st, (p ++ [x]).map L <+: linesOf l ∧ k = p.length + 1 ∧ foldO p rd0 = some st ∧ lineOf st x = none) ∨ (∃ xs st, xs.map L = linesOf l ∧ foldO xs rd0 = some st ∧ checkS st.tens st.cap st.sess ≠ 0 ∧ k = xs.length)
def ReadPost (s : ByteArray) (w : World) (e : Ending) (w' : World) : Prop :=
  Below w.heap.size w w' ∧ ((∃ k, ErrAt (L s) k ∧ e = .returned (.tuple #[setV (.slice none 0 0) 0 0, .slice none 0 0, .int .i64 (k : Int), .int .i64 2])) ∨
    (∃ xs st vt ve, xs.map L = linesOf (L s) ∧ foldO xs rd0 = some st ∧ checkS st.tens st.cap st.sess = 0 ∧ TRow w' vt st.tens ∧ ERow w' ve st.evs ∧ e = .returned (.tuple #[setV vt st.cap st.sess, ve, .int .i64 0, .int .i64 0])))

theorem cset_b {W : World} {a i b j : Nat} {v : Value} (h : a ≠ b) : (W.setCell ⟨a, i, none⟩ v).cell? ⟨b, j, none⟩ = W.cell? ⟨b, j, none⟩ := World.cell?_setCell_other _ _ _ _ (fun e => h (congrArg Addr.block e))
theorem cset_o {W : World} {a i j : Nat} {v : Value} (h : i ≠ j) : (W.setCell ⟨a, i, none⟩ v).cell? ⟨a, j, none⟩ = W.cell? ⟨a, j, none⟩ := World.cell?_setCell_other _ _ _ _ (fun e => h (congrArg Addr.off e))
theorem cset_s {W : World} {a i : Nat} {u v : Value} (h : W.cell? ⟨a, i, none⟩ = some u) : (W.setCell ⟨a, i, none⟩ v).cell? ⟨a, i, none⟩ = some v := World.cell?_setCell_same _ _ _ h
/-- Where Read's loop begins. -/
def start (w : World) (s : ByteArray) : World := ((((((w.alloc (.cells #[.slice none 0 0, .int .i64 0, .int .i64 0] 24)).alloc (.cells #[.slice none 0 0] 25)).alloc (.cells #[.int .i64 0] 3)).alloc (.cells #[.int .i64 0] 29)).alloc (.cells #[.slice none 0 0, .int .i64 0, .int .i64 0, .slice none 0 0] 69)).alloc (.cells #[.int .i64 0] 3)).alloc (.cells #[.string s] 9)
theorem start_size (w : World) (s : ByteArray) : (start w s).heap.size = w.heap.size + 7 := by simp [start]
theorem start_below (w : World) (s : ByteArray) : Below w.heap.size w (start w s) :=
  ((((((((Below.refl _ w).alloc (Nat.le_refl _) _).alloc (by simp) _).alloc (by simp; omega) _).alloc (by simp; omega) _).alloc (by simp; omega) _).alloc (by simp; omega) _).alloc (by simp; omega) _)
theorem one_at {W W' : World} {c : Array Value} {t : TypeId} {n : Nat} (hn : W.heap.size = n) (hb : Below (W.alloc (.cells c t)).heap.size (W.alloc (.cells c t)) W') : (∀ i, W'.cell? ⟨n, i, none⟩ = c[i]?) ∧ ∀ i, W'.frozen? ⟨n, i, none⟩ = false := by
  subst hn
  have hl : W.heap.size < (W.alloc (.cells c t)).heap.size := by simp
  have hh := hb.block _ hl
  exact ⟨fun i => (World.cell?_of_block (w := W.alloc (.cells c t)) (a := ⟨W.heap.size, i, none⟩) hh).trans (World.cell?_alloc_at _ _ _ _ rfl), fun i => (World.frozen?_of_block (w := W.alloc (.cells c t)) (a := ⟨W.heap.size, i, none⟩) hh).trans (World.frozen?_alloc_at _ _ _ _ rfl)⟩
theorem b_alloc (W : World) (o : Obj) : Below W.heap.size W (W.alloc o) := (Below.refl _ _).alloc (Nat.le_refl _) _
theorem start_is (w : World) (s : ByteArray) : RI w [] (start w s) ∧ C1 (start w s) (w.heap.size + 6) (.string s) := by
  have e0 := one_at (W := w) (c := #[.slice none 0 0, .int .i64 0, .int .i64 0]) (t := 24) (n := w.heap.size) rfl (bt (b_alloc _ (.cells #[.slice none 0 0] 25)) (bt (b_alloc _ (.cells #[.int .i64 0] 3)) (bt (b_alloc _ (.cells #[.int .i64 0] 29)) (bt (b_alloc _ (.cells #[.slice none 0 0, .int .i64 0, .int .i64 0, .slice none 0 0] 69)) (bt (b_alloc _ (.cells #[.int .i64 0] 3)) (b_alloc _ (.cells #[.string s] 9)))))))
  have e1 := one_at (W := w.alloc (.cells #[.slice none 0 0, .int .i64 0, .int .i64 0] 24)) (c := #[.slice none 0 0]) (t := 25) (n := w.heap.size + 1) (by simp) (bt (b_alloc _ (.cells #[.int .i64 0] 3)) (bt (b_alloc _ (.cells #[.int .i64 0] 29)) (bt (b_alloc _ (.cells #[.slice none 0 0, .int .i64 0, .int .i64 0, .slice none 0 0] 69)) (bt (b_alloc _ (.cells #[.int .i64 0] 3)) (b_alloc _ (.cells #[.string s] 9))))))
  have e2 := one_at (W := (w.alloc (.cells #[.slice none 0 0, .int .i64 0, .int .i64 0] 24)).alloc (.cells #[.slice none 0 0] 25)) (c := #[.int .i64 0]) (t := 3) (n := w.heap.size + 2) (by simp) (bt (b_alloc _ (.cells #[.int .i64 0] 29)) (bt (b_alloc _ (.cells #[.slice none 0 0, .int .i64 0, .int .i64 0, .slice none 0 0] 69)) (bt (b_alloc _ (.cells #[.int .i64 0] 3)) (b_alloc _ (.cells #[.string s] 9)))))
  have e3 := one_at (W := ((w.alloc (.cells #[.slice none 0 0, .int .i64 0, .int .i64 0] 24)).alloc (.cells #[.slice none 0 0] 25)).alloc (.cells #[.int .i64 0] 3)) (c := #[.int .i64 0]) (t := 29) (n := w.heap.size + 3) (by simp) (bt (b_alloc _ (.cells #[.slice none 0 0, .int .i64 0, .int .i64 0, .slice none 0 0] 69)) (bt (b_alloc _ (.cells #[.int .i64 0] 3)) (b_alloc _ (.cells #[.string s] 9))))
  have e4 := one_at (W := (((w.alloc (.cells #[.slice none 0 0, .int .i64 0, .int .i64 0] 24)).alloc (.cells #[.slice none 0 0] 25)).alloc (.cells #[.int .i64 0] 3)).alloc (.cells #[.int .i64 0] 29)) (c := #[.slice none 0 0, .int .i64 0, .int .i64 0, .slice none 0 0]) (t := 69) (n := w.heap.size + 4) (by simp) (bt (b_alloc _ (.cells #[.int .i64 0] 3)) (b_alloc _ (.cells #[.string s] 9)))
  have e5 := one_at (W := ((((w.alloc (.cells #[.slice none 0 0, .int .i64 0, .int .i64 0] 24)).alloc (.cells #[.slice none 0 0] 25)).alloc (.cells #[.int .i64 0] 3)).alloc (.cells #[.int .i64 0] 29)).alloc (.cells #[.slice none 0 0, .int .i64 0, .int .i64 0, .slice none 0 0] 69)) (c := #[.int .i64 0]) (t := 3) (n := w.heap.size + 5) (by simp) (b_alloc _ (.cells #[.string s] 9))
  have e6 := one_at (W := (((((w.alloc (.cells #[.slice none 0 0, .int .i64 0, .int .i64 0] 24)).alloc (.cells #[.slice none 0 0] 25)).alloc (.cells #[.int .i64 0] 3)).alloc (.cells #[.int .i64 0] 29)).alloc (.cells #[.slice none 0 0, .int .i64 0, .int .i64 0, .slice none 0 0] 69)).alloc (.cells #[.int .i64 0] 3)) (c := #[.string s]) (t := 9) (n := w.heap.size + 6) (by simp) (Below.refl _ _)
  have hz := start_size w s
  refine ⟨⟨⟨rd0, rfl, .slice none 0 0, .slice none 0 0, [], [], ?_⟩, ⟨⟨e0.1 0, e0.1 1, e0.1 2, e0.2⟩, ⟨e1.1 0, e1.2 0⟩, ⟨e2.1 0, e2.2 0⟩, ⟨e3.1 0, e3.2 0⟩, ⟨e5.1 0, e5.2 0⟩⟩, start_below w s⟩, ⟨e6.1 0, e6.2 0⟩⟩
  refine ⟨e4.1 0, e4.1 1, e4.1 2, e4.1 3, e4.2, World.ownsRow_nil _ _ _ _, World.ownsRow_nil _ _ _ _, ⟨rfl, fun i l d h => by simp [rd0] at h⟩, ⟨rfl, fun i l d h => by simp [rd0] at h⟩, (fun h => by cases h), (fun h => by cases h), (fun g h => by cases h), by omega, fun b hb => ⟨?_, (fun h => by cases h), (fun h => by cases h), ?_⟩⟩
  · simp [exs] at hb; omega
  · simp [exs] at hb; omega

end Go.Proofs.YtinabbdecmjcpaaGreatDoor.Script
