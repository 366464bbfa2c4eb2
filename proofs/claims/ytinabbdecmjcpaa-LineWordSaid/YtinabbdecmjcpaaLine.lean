/- Contracts of line.Word, known, read, of the sample of line.Read, and of the law's awake of layer 8. -/
import Derived.Test.YtinabbdecmjcpaaNumber
import Derived.Test.YtinabbdecmjcpaaHex
namespace Go.Proofs.Ytinabbdecmjcpaa.Line
open Go.RowKit Go.Proofs.Ytinabbdecmjcpaa Go.Proofs.Ytinabbdecmjcpaa.Hex Go.Proofs.Ytinabbdecmjcpaa.Plain Go.Proofs.Ytinabbdecmjcpaa.Words Go.Proofs.Ytinabbdecmjcpaa.Named Go.Proofs.Ytinabbdecmjcpaa.Number
set_option linter.unusedVariables false

/-- The first word. -/
def firstOf : Option (List (List UInt8)) → List UInt8
  | some (a :: _) => a
  | _ => []

/-- line.Word, of any line. -/
theorem word_any (s : ByteArray) (w : World) (hs : s.size ≤ 1000000000000) :
    Calls Try.prog 30 #[.string s] w fun e w' => e = .returned (.string (S (firstOf (words (L s))))) ∧ Below w.heap.size w w' := by
  have h1 := Lib.hid (words_any s w hs)
  generalize words (L s) = R at *
  go_enter Try.func30, Try.ntmps30
  go_wp2_with fail
  refine h1.out.mono ?_
  rintro e w1 ⟨v, n, rfl, hb1, hc1⟩
  rcases hc1 with ⟨rfl, rfl, rfl⟩ | ⟨ws, rfl, rfl, hst⟩
  · go_wp2
    go_ret
    exact ⟨rfl, hb1⟩
  · rcases strs_row hst with ⟨rfl, a, cap, rfl⟩ | ⟨g, o, cap, rfl, hg, hc⟩
    · clear hst
      go_wp2
      go_ret
      exact ⟨rfl, hb1⟩
    · clear hst
      cases ws with
      | nil =>
        simp only [List.length_nil]
        go_wp2
        go_ret
        exact ⟨rfl, hb1⟩
      | cons x l =>
        have c0 : w1.cell? ⟨g, o, none⟩ = some (.string (S x)) := hc 0 (by simp)
        clear hc
        have hpos : 0 < (x :: l).length := by simp
        have hx : S (firstOf (some (x :: l))) = S x := rfl
        generalize (x :: l).length = m at *
        have hne : ((m : Int) == 0) = false := by rw [beq_eq_false_iff_ne]; omega
        generalize hy : S x = y at *
        clear hx
        go_wp2
        go_ret
        exact ⟨by rw [← hy]; rfl, hb1⟩

/-- A field of a line that lies in new memory, behind a call. -/
theorem fresh3 (w w2 : World) (a b c : Value) (t : TypeId) (hb : Below (w.alloc (.cells #[a, b, c] t)).heap.size (w.alloc (.cells #[a, b, c] t)) w2) :
    (w2.cell? ⟨w.heap.size, 0, none⟩ = some a ∧ w2.cell? ⟨w.heap.size, 1, none⟩ = some b ∧ w2.cell? ⟨w.heap.size, 2, none⟩ = some c) ∧
    (w2.frozen? ⟨w.heap.size, 0, none⟩ = false ∧ w2.frozen? ⟨w.heap.size, 1, none⟩ = false ∧ w2.frozen? ⟨w.heap.size, 2, none⟩ = false) := by
  have hl : w.heap.size < (w.alloc (.cells #[a, b, c] t)).heap.size := by simp
  exact ⟨⟨(hb.cell (p := ⟨w.heap.size, 0, none⟩) hl).trans (World.cell?_alloc_at _ _ _ _ rfl), (hb.cell (p := ⟨w.heap.size, 1, none⟩) hl).trans (World.cell?_alloc_at _ _ _ _ rfl), (hb.cell (p := ⟨w.heap.size, 2, none⟩) hl).trans (World.cell?_alloc_at _ _ _ _ rfl)⟩,
    ⟨(hb.frozen (p := ⟨w.heap.size, 0, none⟩) hl).trans (World.frozen?_alloc_at _ _ _ _ rfl), (hb.frozen (p := ⟨w.heap.size, 1, none⟩) hl).trans (World.frozen?_alloc_at _ _ _ _ rfl), (hb.frozen (p := ⟨w.heap.size, 2, none⟩) hl).trans (World.frozen?_alloc_at _ _ _ _ rfl)⟩⟩

theorem known_t (w : World) : Calls Try.prog 77 #[.int .i32 116] w fun e w' => e = .returned (.bool true) ∧ w = w' := by
  go_enter Try.func77, Try.ntmps77
  go_wp2
  go_ret
  exact ⟨rfl, rfl⟩
theorem known_n (w : World) : Calls Try.prog 77 #[.int .i32 110] w fun e w' => e = .returned (.bool true) ∧ w = w' := by
  go_enter Try.func77, Try.ntmps77
  go_wp2
  go_ret
  exact ⟨rfl, rfl⟩

theorem read_t (w : World) : Calls Try.prog 78 #[.int .i32 116, .string ⟨#[97, 99, 109, 101]⟩] w fun e w' => e = .returned (.tuple #[.agg #[.string ⟨#[97, 99, 109, 101]⟩, .int .u64 0, .slice none 0 0], .int .i64 0]) ∧ Below w.heap.size w w' := by
  have h2 := Lib.hid (fun W => tenant_any ⟨#[97, 99, 109, 101]⟩ W (by decide))
  go_enter Try.func78, Try.ntmps78
  go_wp2_with fail
  refine (h2.out _).mono ?_
  rintro e w2 ⟨rfl, hb2⟩
  rw [show namedB 16 smallB lowB (L ⟨#[97, 99, 109, 101]⟩) = true by decide]
  obtain ⟨⟨c0, c1, c2⟩, f0, f1, f2⟩ := fresh3 _ _ _ _ _ _ hb2
  go_wp2
  refine bodyPost_ret (v := .tuple #[.agg #[.string ⟨#[97, 99, 109, 101]⟩, .int .u64 0, .slice none 0 0], .int .i64 0]) (by simp [results, Try.results78, go_sem, c0, c1, c2]) rfl ⟨rfl, ?_⟩
  exact ((((((Below.refl _ _).alloc (Nat.le_refl _) _).trans (hb2.mono (by simp))).setCell (Nat.le_refl _) _).setCell (Nat.le_refl _) _).setCell (Nat.le_refl _) _)
theorem read_n (w : World) : Calls Try.prog 78 #[.int .i32 110, .string ⟨#[49, 48, 48]⟩] w fun e w' => e = .returned (.tuple #[.agg #[.string ⟨#[]⟩, .int .u64 100, .slice none 0 0], .int .i64 0]) ∧ Below w.heap.size w w' := by
  have h2 := Lib.hid (fun W => number_any ⟨#[49, 48, 48]⟩ W (by decide))
  go_enter Try.func78, Try.ntmps78
  go_wp2_with fail
  refine (h2.out _).mono ?_
  rintro e w2 ⟨rfl, hb2⟩
  rw [show numOf (L ⟨#[49, 48, 48]⟩) = (100, 0) by decide]
  obtain ⟨⟨c0, c1, c2⟩, f0, f1, f2⟩ := fresh3 _ _ _ _ _ _ hb2
  go_wp2
  refine bodyPost_ret (v := .tuple #[.agg #[.string ⟨#[]⟩, .int .u64 100, .slice none 0 0], .int .i64 0]) (by simp [results, Try.results78, go_sem, c0, c1, c2]) rfl ⟨rfl, ?_⟩
  exact ((((((Below.refl _ _).alloc (Nat.le_refl _) _).trans (hb2.mono (by simp))).setCell (Nat.le_refl _) _).setCell (Nat.le_refl _) _).setCell (Nat.le_refl _) _)

theorem own_block {w w' : World} {B e z n G cap : Nat} {xs : List Value} (h : w.ownsRow B e z (.slice (some ⟨G, 0, none⟩) n cap) n xs) (hb : w'.heap[G]? = w.heap[G]?) : w'.ownsRow B e z (.slice (some ⟨G, 0, none⟩) n cap) n xs := by
  obtain ⟨h1, h2⟩ := h
  refine ⟨h1, ?_⟩
  rcases h2 with ⟨h2, _⟩ | ⟨g, c, cur, a, b, d, r⟩
  · cases h2
  · cases a
    exact .inr ⟨_, _, cur, rfl, b, by rw [hb]; exact d, r⟩
theorem own_lt {w : World} {B e z n G cap : Nat} {xs : List Value} (h : w.ownsRow B e z (.slice (some ⟨G, 0, none⟩) n cap) n xs) : G < w.heap.size := by
  rcases h.2 with ⟨h2, _⟩ | ⟨g, c, cur, a, b, d, r⟩
  · cases h2
  · cases a
    exact lt_of_block d

theorem info94 : (Try.prog.info? 94).map (fun i => (i.zero, i.size, i.bytes)) = some (some (.agg #[.string ⟨#[]⟩, .int .u64 0, .slice none 0 0]), 3, 48) := by kernel_rfl

def fieldsAt : Nat → List Value
  | 0 => []
  | 1 => [.string ⟨#[97, 99, 109, 101]⟩, .int .u64 0, .slice none 0 0]
  | _ => [.string ⟨#[97, 99, 109, 101]⟩, .int .u64 0, .slice none 0 0, .string ⟨#[]⟩, .int .u64 100, .slice none 0 0]

/-- One letter more, beside a row in another block. -/
theorem next_at {P : Program} {w wr : World} {s : ByteArray} {pos B K : Nat} (hp : pos < s.size) (hit : wr.heap[K]? = some (.stringIter s pos)) (hbel : Below B w wr) (hK : B ≤ K) (ha : (s[pos]'hp).toNat < 128) :
    ∃ W1 : World, (∀ ty, (Instr.next (.pointer (some ⟨K, 0, none⟩)) true ty).run P wr = .ok (.tuple #[.bool true, .int .i64 pos, .int .i32 (s[pos]'hp).toNat]) W1) ∧ W1.heap[K]? = some (.stringIter s (pos + 1)) ∧ Below B w W1 ∧ ∀ g, g ≠ K → W1.heap[g]? = wr.heap[g]? := by
  have e := decode_ascii s pos hp ha
  have h := fun ty => Lib.run_next_any_at (P := P) wr K s pos ty hit hp
  have h2 := Lib.iterAt_heap wr K s pos (pos + (Utf8.decode s pos).2) hit
  rw [e] at h2
  simp only [e] at h
  exact ⟨_, h, h2, Lib.below_iterAt hbel hK s _, fun g hg => Lib.iterAt_other _ _ _ _ _ hg⟩

/-- A field put behind the others. -/
theorem put_block {w3 : World} {o o' : Obj} {G : Nat} (hG : G < w3.heap.size) : (((w3.alloc o).alloc o').heap[G]?) = w3.heap[G]? :=
  Below.block (((Below.refl w3.heap.size w3).alloc (Nat.le_refl _) o).alloc (by simp) o') G hG
theorem put_below {B : Nat} {w w3 : World} {o o' : Obj} (hb : Below B w w3) (hB : B ≤ w3.heap.size) : Below B w ((w3.alloc o).alloc o') := (hb.alloc hB o).alloc (by simp; omega) o'
theorem new3 (X : World) (K : Nat) (a b c : Value) (t : TypeId) (hK : K = X.heap.size) : ∀ j u, [a, b, c][j]? = some u → (X.alloc (.cells #[a, b, c] t)).cell? (Addr.add ⟨K, 0, none⟩ j) = some u := by
  intro j u h
  subst hK
  rw [addr_add, Nat.zero_add]
  rw [World.cell?_alloc_at _ _ _ _ rfl]
  simpa using h

set_option maxRecDepth 100000 in
set_option maxHeartbeats 1000000 in
theorem read_sample (w : World) : Calls Try.prog 57 #[.string ⟨#[99, 97, 112, 32, 97, 99, 109, 101, 32, 49, 48, 48]⟩, .string ⟨#[99, 97, 112]⟩, .string ⟨#[116, 110]⟩] w fun e w' =>
    ∃ g, e = .returned (.tuple #[.slice (some ⟨g, 0, none⟩) 2 2, .int .i64 0]) ∧ g < w'.heap.size ∧ w'.cell? ⟨g, 0, none⟩ = some (.string ⟨#[97, 99, 109, 101]⟩) ∧ w'.cell? ⟨g, 4, none⟩ = some (.int .u64 100) ∧ Below w.heap.size w w' := by
  obtain ⟨i0, hi, hz0, hz1, hz2⟩ := info_parts info94
  have h1 := Lib.hid (fun W => words_any ⟨#[99, 97, 112, 32, 97, 99, 109, 101, 32, 49, 48, 48]⟩ W (by decide))
  have hwords : words (L ⟨#[99, 97, 112, 32, 97, 99, 109, 101, 32, 49, 48, 48]⟩) = some [[99, 97, 112], [97, 99, 109, 101], [49, 48, 48]] := by decide
  have HW := Lib.hid hwords
  clear hwords
  go_enter Try.func57, Try.ntmps57
  go_wp2
  go_loopw [] (fun wr => ∃ pos : Nat, pos ≤ 2 ∧ wr.heap[w.heap.size]? = some (.stringIter ⟨#[116, 110]⟩ pos) ∧ Below w.heap.size w wr) (fun wr => 2 - wr.iterPos w.heap.size)
  case atStart => exact ⟨0, by omega, World.iter_heap w _ 0, (Below.refl _ _).alloc (Nat.le_refl _) _⟩
  case round =>
    obtain ⟨pos, hps, hit, hbel⟩ := hrel
    have hpos0 := iterPos_of hit
    by_cases hp : pos < 2
    · obtain ⟨r, k, W1, hnx, hit2, hbel2, hr1, hc⟩ := next_name (P := Try.prog) (s := ⟨#[116, 110]⟩) hp hit hbel
      have hk : pos = 0 ∨ pos = 1 := by omega
      rcases hk with rfl | rfl
      · obtain ⟨rfl, rfl⟩ : r = 116 ∧ k = 1 := by
          rcases hc with h | ⟨_, h⟩
          · exact h
          · exact absurd h (by decide +revert)
        clear hc
        go_wp2_with (go_at_call 77; refine (known_t _).mono ?_; rintro e w' ⟨rfl, rfl⟩)
        go_roundw
        case rel => exact ⟨1, by omega, hit2, hbel2⟩
        case measure => rw [iterPos_of hit2, hpos0]; omega
      · obtain ⟨rfl, rfl⟩ : r = 110 ∧ k = 1 := by
          rcases hc with h | ⟨_, h⟩
          · exact h
          · exact absurd h (by decide +revert)
        clear hc
        go_wp2_with (go_at_call 77; refine (known_n _).mono ?_; rintro e w' ⟨rfl, rfl⟩)
        go_roundw
        case rel => exact ⟨2, by omega, hit2, hbel2⟩
        case measure => rw [iterPos_of hit2, hpos0]; omega
    · have hnx : ∀ ty, (Instr.next (.pointer (some ⟨w.heap.size, 0, none⟩)) true ty).run Try.prog wr = _ := fun ty => Lib.run_next_end_at wr w.heap.size ⟨#[116, 110]⟩ pos ty hit hp
      clear hit hpos0
      go_wp2_with fail
      refine (h1.out _).mono ?_
      rintro e w1 ⟨v, n, rfl, hb1, hc1⟩
      rcases hc1 with ⟨r1, _⟩ | ⟨ws, r1, rfl, hst⟩
      · rw [HW.out] at r1; cases r1
      · rw [HW.out] at r1
        cases r1
        rcases strs_row hst with ⟨h, _⟩ | ⟨g, o, cap, rfl, hg, hc⟩
        · cases h
        · have d0 : w1.cell? ⟨g, o, none⟩ = some (.string ⟨#[99, 97, 112]⟩) := hc 0 (by decide)
          have d1 : w1.cell? ⟨g, o + 1, none⟩ = some (.string ⟨#[97, 99, 109, 101]⟩) := hc 1 (by decide)
          have d2 : w1.cell? ⟨g, o + 2, none⟩ = some (.string ⟨#[49, 48, 48]⟩) := hc 2 (by decide)
          clear hc hst
          simp only [List.length_cons, List.length_nil]
          have hB1 : Below w.heap.size w w1 := hbel.trans (hb1.mono hbel.size)
          clear hbel hb1 hnx
          go_wp2_with (at_make; refine wpList_make_own _ rfl _ _ 90 rfl w1.heap.size 94 i0 _ 3 Try.underlying90 hi hz0 hz1 .i64 .i64 2 2 rfl rfl (by rfl) (by rw [hz2]; omega) (by unfold maxLen; omega) (Nat.le_refl _) ?_; intro w2 hown2 hgrow2)
          have hb2 : Below w1.heap.size w1 w2 := (Below.refl _ _).grown hgrow2 (Nat.le_refl _) (fun k hk => by cases hk)
          have hG := own_lt hown2
          go_loopw [12] (fun v wr => ∃ pos : Nat, pos ≤ 2 ∧ v = .slice (some ⟨w1.heap.size, 0, none⟩) pos 2 ∧ wr.heap[w2.heap.size]? = some (.stringIter ⟨#[116, 110]⟩ pos) ∧ Below w1.heap.size w1 wr ∧ wr.ownsRow w1.heap.size 94 3 (.slice (some ⟨w1.heap.size, 0, none⟩) pos 2) pos (fieldsAt pos)) (fun _ wr => 2 - wr.iterPos w2.heap.size)
          case atStart => exact ⟨0, by omega, rfl, World.iter_heap w2 _ 0, hb2.alloc hb2.size _, World.ownsRow.alloc hown2 _⟩
          case round =>
            obtain ⟨pos, hps, rfl, hit, hbel, hown⟩ := hrel
            have hpos0 := iterPos_of hit
            by_cases hp : pos < 2
            · have hG2 := own_lt hown
              have hk : pos = 0 ∨ pos = 1 := by omega
              rcases hk with rfl | rfl
              · obtain ⟨W1, hnx0, hit2, hbel2, hoth⟩ := next_at (P := Try.prog) (s := ⟨#[116, 110]⟩) hp hit hbel hb2.size (by decide +revert)
                have hnx : ∀ ty, (Instr.next (.pointer (some ⟨w2.heap.size, 0, none⟩)) true ty).run Try.prog wr = .ok (.tuple #[.bool true, .int .i64 0, .int .i32 116]) W1 := hnx0
                have hownW := own_block hown (hoth w1.heap.size (by omega))
                have d1' := (hbel2.cell (p := ⟨g, o + 1, none⟩) hg).trans d1
                have hKl := lt_of_block hit2
                have HO := Lib.hid hownW
                have HB2 := Lib.hid hbel2
                clear hnx0 hoth hit hbel hown hownW hbel2
                have hs2 := HB2.out.size
                go_wp2_with (first | (go_at_call 78; refine (read_t _).mono ?_; rintro e w3 ⟨rfl, hb3⟩; have hs3 := hb3.size; have hb3' := Lib.hid hb3; clear hb3) | (at_builtin; go_loud (refine wpList_append_fits _ rfl _ _ 90 rfl w1.heap.size 94 i0 3 Try.underlying90 hi hz1 w1.heap.size 0 2 (fieldsAt 0) rfl (own_block HO.out ((put_block (by omega)).trans (hb3'.out.block _ (by omega)))) ⟨_, 0, none⟩ 1 1 [.string ⟨#[97, 99, 109, 101]⟩, .int .u64 0, .slice none 0 0] rfl rfl (new3 _ _ _ _ _ _ (by simp)) (fun x hx => by simp at hx; rcases hx with rfl | rfl | rfl <;> rfl) (by omega) ?_; intro w4 hown4 hgrow4)))
                have hit4 : w4.heap[w2.heap.size]? = some (.stringIter ⟨#[116, 110]⟩ (0 + 1)) := by
                  rw [hgrow4.block _ (by simp; omega) (by intro e; have := Option.some.inj e; omega), put_block (by omega), hb3'.out.block _ (by omega)]
                  exact hit2
                go_roundw
                case rel => exact ⟨0 + 1, by omega, rfl, hit4, (put_below (HB2.out.trans (hb3'.out.mono HB2.out.size)) (by omega)).grown hgrow4 (by simp; omega) (fun k hk => by cases hk; omega), hown4⟩
                case measure => rw [iterPos_of hit4, hpos0]; omega
              · obtain ⟨W1, hnx0, hit2, hbel2, hoth⟩ := next_at (P := Try.prog) (s := ⟨#[116, 110]⟩) hp hit hbel hb2.size (by decide +revert)
                have hnx : ∀ ty, (Instr.next (.pointer (some ⟨w2.heap.size, 0, none⟩)) true ty).run Try.prog wr = .ok (.tuple #[.bool true, .int .i64 1, .int .i32 110]) W1 := hnx0
                have hownW := own_block hown (hoth w1.heap.size (by omega))
                have d2' := (hbel2.cell (p := ⟨g, o + 2, none⟩) hg).trans d2
                have hKl := lt_of_block hit2
                have hs2 := hbel2.size
                have HO := Lib.hid hownW
                have HB2 := Lib.hid hbel2
                clear hnx0 hoth hit hbel hown hownW hbel2
                go_wp2_with (first | (go_at_call 78; refine (read_n _).mono ?_; rintro e w3 ⟨rfl, hb3⟩; have hs3 := hb3.size; have hb3' := Lib.hid hb3; clear hb3) | (at_builtin; go_loud (refine wpList_append_fits _ rfl _ _ 90 rfl w1.heap.size 94 i0 3 Try.underlying90 hi hz1 w1.heap.size 1 2 (fieldsAt 1) rfl (own_block HO.out ((put_block (by omega)).trans (hb3'.out.block _ (by omega)))) ⟨_, 0, none⟩ 1 1 [.string ⟨#[]⟩, .int .u64 100, .slice none 0 0] rfl rfl (new3 _ _ _ _ _ _ (by simp)) (fun x hx => by simp at hx; rcases hx with rfl | rfl | rfl <;> rfl) (by omega) ?_; intro w4 hown4 hgrow4)))
                have hit4 : w4.heap[w2.heap.size]? = some (.stringIter ⟨#[116, 110]⟩ (1 + 1)) := by
                  rw [hgrow4.block _ (by simp; omega) (by intro e; have := Option.some.inj e; omega), put_block (by omega), hb3'.out.block _ (by omega)]
                  exact hit2
                go_roundw
                case rel => exact ⟨1 + 1, by omega, rfl, hit4, (put_below (HB2.out.trans (hb3'.out.mono HB2.out.size)) (by omega)).grown hgrow4 (by simp; omega) (fun k hk => by cases hk; omega), hown4⟩
                case measure => rw [iterPos_of hit4, hpos0]; omega
            · obtain rfl : pos = 2 := by omega
              have hnx : ∀ ty, (Instr.next (.pointer (some ⟨w2.heap.size, 0, none⟩)) true ty).run Try.prog wr = _ := fun ty => Lib.run_next_end_at wr w2.heap.size ⟨#[116, 110]⟩ 2 ty hit hp
              have hgl := own_lt hown
              have e0 := World.ownsRow.cellAt hown 0 (by decide)
              have e1 := World.ownsRow.cellAt hown 4 (by decide)
              go_wp2_with fail
              go_ret2
              exact ⟨_, rfl, hgl, e0, e1, hB1.trans (hbel.mono hB1.size)⟩

set_option maxRecDepth 100000 in
theorem awake08 (w : World) : Calls Try.prog 29 #[] w fun e w' => e = .returned (.bool true) ∧ Below w.heap.size w w' := by
  have h2 := Lib.hid (fun W => word_any ⟨#[97, 32, 98]⟩ W (by decide))
  have hf : S (firstOf (words (L ⟨#[97, 32, 98]⟩))) = ⟨#[97]⟩ := by decide
  have HF := Lib.hid hf
  clear hf
  go_enter Try.func29, Try.ntmps29
  go_wp2_with (first | (go_at_call 57; refine (read_sample _).mono ?_; rintro e w1 ⟨g, rfl, hg, c0, c4, hb1⟩) | (go_at_call 30; refine (h2.out _).mono ?_; rintro e w2 ⟨rfl, hb2⟩; rw [HF.out]))
  go_ret
  have s1 := hb1.size
  exact ⟨rfl, hb1.trans (hb2.mono s1)⟩
end Go.Proofs.Ytinabbdecmjcpaa.Line
