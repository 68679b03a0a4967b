/- Contracts of purge's having and of its closure. Conditions: keys of the bounds, at most a million cells. Contracts of the reference's Join, of cell.Norm's closures, of the library's stable sort at cells. Condition: room. Contracts of purge.without's closures, of slices.IndexFunc and ContainsFunc at functions on keys. Conditions: keys of the bounds; at most a million functions. -/
import Derived.Test.YtplghaoflmaadaaGreatDoorZ17
import Derived.Test.YtplghaoflmaadaaGreatDoorZ14
section
set_option linter.unusedVariables false
set_option linter.unusedSimpArgs false
set_option maxRecDepth 50000
namespace Go.Proofs.YtplghaoflmaadaaGreatDoor
open Go.RowKit Go.Sort

/-- the ten cells of an element -/
structure Ten (w : World) (g o : Nat) (c : Cel) : Prop where
  c0 : w.cell? ⟨g, o, none⟩ = some (.string c.k.t)
  c1 : w.cell? ⟨g, o + 1, none⟩ = some (.string c.k.p)
  c2 : w.cell? ⟨g, o + 2, none⟩ = some (.int .i64 c.k.r)
  c3 : w.cell? ⟨g, o + 3, none⟩ = some (.string c.k.c)
  c4 : w.cell? ⟨g, o + 4, none⟩ = some (.int .i64 c.v.time)
  c5 : w.cell? ⟨g, o + 5, none⟩ = some (.bool c.v.dead)
  c6 : w.cell? ⟨g, o + 6, none⟩ = some (.int .i64 c.v.loc)
  c7 : w.cell? ⟨g, o + 7, none⟩ = some (.int .i64 c.v.kind)
  c8 : w.cell? ⟨g, o + 8, none⟩ = some (.int .i64 c.v.n)
  c9 : w.cell? ⟨g, o + 9, none⟩ = some (.string c.v.s)
theorem Ten.of {B : Nat} {w : World} {l : List Cel} {g o n c : Nat} (h : SlX eC B w (.slice (some ⟨g, o, none⟩) n c) l) (j : Nat) (hj : j < l.length) : Ten w g (o + j * 10) l[j] :=
  ⟨h.cell j 0 hj rfl, h.cell j 1 hj rfl, h.cell j 2 hj rfl, h.cell j 3 hj rfl, h.cell j 4 hj rfl, h.cell j 5 hj rfl, h.cell j 6 hj rfl, h.cell j 7 hj rfl, h.cell j 8 hj rfl, h.cell j 9 hj rfl⟩
theorem Ten.keep {w w1 : World} {g o : Nat} {c : Cel} (h : Ten w g o c) (hb : Below w.heap.size w w1) : Ten w1 g o c :=
  ⟨cell_keep hb h.c0, cell_keep hb h.c1, cell_keep hb h.c2, cell_keep hb h.c3, cell_keep hb h.c4, cell_keep hb h.c5, cell_keep hb h.c6, cell_keep hb h.c7, cell_keep hb h.c8, cell_keep hb h.c9⟩

end Go.Proofs.YtplghaoflmaadaaGreatDoor
end

section
set_option linter.unusedVariables false
set_option linter.unusedSimpArgs false
set_option maxRecDepth 50000
namespace Go.Proofs.YtplghaoflmaadaaGreatDoor
open Go.RowKit Go.Sort
open Go.Lib hiding intOf

/-- the order of keys -/
def kcK (a b : Ky) : Int := kcmp a.t a.p a.r a.c b.t b.p b.r b.c
theorem ba_list {a b : ByteArray} : a.toList = b.toList ↔ a = b := ⟨toList_inj, fun h => by rw [h]⟩
theorem kcK_ord : KeyOrd kcK where
  zero a b := by
    obtain ⟨t, p, r, c⟩ := a; obtain ⟨t', p', r', c'⟩ := b
    unfold kcK
    rw [kcmp_zero]
    simp only [ba_list, Ky.mk.injEq]
  neg a b := kcmp_neg _ _ _ _ _ _ _ _
  tr a b c h1 h2 := by
    have h := kcmp_trans _ _ _ _ _ _ _ _ _ _ _ _ (Int.le_of_lt h1) (Int.le_of_lt h2)
    have h3 : kcK a c ≤ 0 := h
    rcases Int.lt_or_eq_of_le h3 with h5 | h5
    · exact h5
    · have e : a = c := by
        have := h5
        unfold kcK at this
        rw [kcmp_zero] at this
        obtain ⟨t, p, r, c'⟩ := a; obtain ⟨t', p', r', c''⟩ := c
        simpa only [ba_list, Ky.mk.injEq] using this
      subst e
      have n : kcK b a = -kcK a b := kcmp_neg _ _ _ _ _ _ _ _
      omega
theorem norm1_c (a b : Cel) (w : World) : Calls Tryz.prog 67 #[.agg (celEnc a).toArray, .agg (celEnc b).toArray] w fun e w' => e = .returned (.int .i64 (kcK a.k b.k)) ∧ Below w.heap.size w w' := by
  have C := Lib.hid (fun W => Cmp_any a.k.t a.k.p a.k.c b.k.t b.k.p b.k.c a.k.r b.k.r W)
  have HB0 := Lib.hid (below_alloc (below_alloc (Below.refl _ w) (.cells (celEnc a).toArray 61)) (.cells (celEnc b).toArray 61))
  obtain ⟨R, hR⟩ : ∃ R, kcK a.k b.k = R := ⟨_, rfl⟩
  have HR := Lib.hid hR
  unfold kcK kcmp at hR
  rw [hR] at C
  rw [HR.out]
  clear hR
  obtain ⟨⟨t, p, r, c⟩, ⟨x1, x2, x3, x4, x5, x6⟩⟩ := a
  obtain ⟨⟨t', p', r', c'⟩, ⟨y1, y2, y3, y4, y5, y6⟩⟩ := b
  simp only [celEnc] at *
  go_enter Tryz.func67, Tryz.ntmps67
  go_wp2_with fail
  refine (C.out _).mono ?_
  rintro e w1 ⟨rfl, hb⟩
  have HB := Lib.hid (below_tr HB0.out hb)
  clear hb
  go_wp2_with fail
  go_ret
  exact ⟨rfl, HB.out⟩
theorem keyEq_dec (a b : Ky) : keyEq a.t a.p a.r a.c b.t b.p b.r b.c = decide (a = b) := by
  obtain ⟨t, p, r, c⟩ := a; obtain ⟨t', p', r', c'⟩ := b
  rw [Bool.eq_iff_iff]
  unfold keyEq
  simp only [Bool.and_eq_true, beq_iff_eq, and_true, decide_eq_true_eq, ba_list, Ky.mk.injEq]
theorem norm2_c (a b : Cel) (w : World) : Calls Tryz.prog 69 #[.agg (celEnc a).toArray, .agg (celEnc b).toArray] w fun e w' => e = .returned (.bool (decide (a.k = b.k))) ∧ Below w.heap.size w w' := by
  have HB0 := Lib.hid (below_alloc (below_alloc (Below.refl _ w) (.cells (celEnc a).toArray 61)) (.cells (celEnc b).toArray 61))
  have q := fun w => key_eql w a.k.t a.k.p a.k.c b.k.t b.k.p b.k.c a.k.r b.k.r
  rw [keyEq_dec] at q
  generalize decide (a.k = b.k) = R at *
  obtain ⟨⟨t, p, r, c⟩, ⟨x1, x2, x3, x4, x5, x6⟩⟩ := a
  obtain ⟨⟨t', p', r', c'⟩, ⟨y1, y2, y3, y4, y5, y6⟩⟩ := b
  simp only [celEnc] at *
  go_enter Tryz.func69, Tryz.ntmps69
  go_wp2_with fail
  go_ret
  exact ⟨rfl, HB0.out⟩
instance : Inhabited Cel := ⟨⟨⟨⟨#[]⟩, ⟨#[]⟩, 0, ⟨#[]⟩⟩, ⟨0, false, 0, 0, 0, ⟨#[]⟩⟩⟩⟩
/-- cells, as keys with versions -/
def toP (c : Cel) : Ky × Vr := (c.k, c.v)
def ofP (p : Ky × Vr) : Cel := ⟨p.1, p.2⟩
theorem of_toP (c : Cel) : ofP (toP c) = c := rfl
theorem to_ofP (p : Ky × Vr) : toP (ofP p) = p := rfl
theorem map_of_toP (l : List Cel) : (l.map toP).map ofP = l := by rw [List.map_map]; exact List.map_id' l
def ltC (a b : Cel) : Bool := decide (kcK a.k b.k < 0)
theorem ltC_ok : LtOk ltC := by
  have h := kcK_ord.ltOk (ν := Vr)
  exact ⟨fun x => h.irr (toP x), fun x y z => h.tr (toP x) (toP y) (toP z), fun x y z => h.ntr (toP x) (toP y) (toP z)⟩
theorem soCmp : SoCmp Tryz.prog eC 67 (fun a b => kcK a.k b.k) where
  eg := enters_of Tryz.func67 (by kernel_rfl) rfl
  cmp := fun W x y => norm1_c x y W
  ord := ltC_ok

theorem insC_any (a b g c base : Nat) (l : List Cel) (w : World) (HO : OwnX eC w base (.slice (some ⟨g, 0, none⟩) l.length c) l) (hab : a ≤ b) (hb : b ≤ l.length) (hl : l.length < 4611686018427387904) :
    Calls Tryz.prog 130 #[.slice (some ⟨g, 0, none⟩) l.length c, .int .i64 a, .int .i64 b, .func (.func 67) #[] #[]] w
      (SwapPost eC w base g c l fun l' => l'.length = l.length ∧ (∀ k, k < a ∨ b ≤ k → l'[k]? = l[k]?) ∧ SrtOn ltC l' a b ∧ Stb ltC l l') :=
  (ins_gen soLay soCmp a b g c base l w HO hab hb hl).mono fun e w' ⟨h1, l', h2, h3, h4⟩ => ⟨h1, l', by subst h2; exact ins_mg ltC_ok l a b hab hb, h3, h4⟩

set_option maxHeartbeats 4000000 in
theorem stableC_any (g c base : Nat) (l : List Cel) (w : World) (HO : OwnX eC w base (.slice (some ⟨g, 0, none⟩) l.length c) l) (hl : l.length < 1000000000000000) :
    Calls Tryz.prog 109 #[.slice (some ⟨g, 0, none⟩) l.length c, .int .i64 l.length, .func (.func 67) #[] #[]] w (SwapPost eC w base g c l fun l' => Srt ltC l' ∧ Stb ltC l l') := by
  have INS := Lib.hid (fun (a b : Nat) (cur : List Cel) (W : World) (h : cur.length = l.length) (hO : OwnX eC W base (.slice (some ⟨g, 0, none⟩) l.length c) cur) (x1 : a ≤ b) (x2 : b ≤ l.length) =>
    show Calls Tryz.prog 130 #[.slice (some ⟨g, 0, none⟩) l.length c, .int .i64 a, .int .i64 b, .func (.func 67) #[] #[]] W (SwapPost eC W base g c cur fun l' => l'.length = l.length ∧ (∀ k, k < a ∨ b ≤ k → l'[k]? = cur[k]?) ∧ SrtOn ltC l' a b ∧ Stb ltC cur l') by
      have := insC_any a b g c base cur W (by rw [h]; exact hO) x1 (by omega) (by omega)
      rwa [h] at this)
  have SYM := Lib.hid (fun (a m b : Nat) (cur : List Cel) (W : World) (h : cur.length = l.length) (hO : OwnX eC W base (.slice (some ⟨g, 0, none⟩) l.length c) cur) (x1 : a < m) (x2 : m < b) (x3 : b ≤ l.length) (hA : SrtOn ltC cur a m) (hB : SrtOn ltC cur m b) =>
    show Calls Tryz.prog 131 #[.slice (some ⟨g, 0, none⟩) l.length c, .int .i64 a, .int .i64 m, .int .i64 b, .func (.func 67) #[] #[]] W (SwapPost eC W base g c cur (MG ltC a b cur)) by
      have := sym_gen soLay soCmp (b - a) a m b g c base cur W (Nat.le_refl _) (by rw [h]; exact hO) x1 x2 (by omega) (by omega) hA hB
      rwa [h] at this)
  have HO0 := Lib.hid HO
  obtain ⟨n, hn⟩ : ∃ n, l.length = n := ⟨_, rfl⟩
  rw [hn] at hl HO0 INS SYM ⊢
  have HN := Lib.hid hn
  clear HO hn
  go_enter Tryz.func109, Tryz.ntmps109
  go_wp2_with fail
  go_loopw [7, 8] (fun va vb wr => ∃ (a b : Nat) (cur : List Cel), va = .int .i64 (a : Int) ∧ vb = .int .i64 (b : Int) ∧ a ≤ n ∧ b ≤ n + 20 ∧ Hid (a + 20 = b) ∧ Hid (20 ∣ a ∧ cur.length = n ∧ SB ltC cur 20 0 a ∧ Stb ltC l cur ∧ OwnX eC wr base (.slice (some ⟨g, 0, none⟩) n c) cur ∧ w.grownBy wr (some g))) (fun va _ _ => n - (intOf va).toNat)
  case atStart => exact ⟨0, 20, l, rfl, rfl, by omega, by omega, Lib.hid rfl, Lib.hid ⟨Nat.dvd_zero _, HN.out, SB.none _ _ _, Stb.refl _ _, HO0.out, World.grownBy.refl _ _⟩⟩
  case round =>
    obtain ⟨a, b, cur, rfl, rfl, han, hbn, HB, ST⟩ := hrel
    by_cases hlt : b ≤ n
    · have hz : (b : Int) ≤ (n : Int) := by omega
      have C := Lib.hid (INS.out a b cur wr ST.out.2.1 ST.out.2.2.2.2.1 (by have := HB.out; omega) hlt)
      go_wp2_with fail
      refine C.out.mono ?_
      rintro e w1 ⟨rfl, l', ⟨h1, h2, h3, h4⟩, h5, h6⟩
      have ST2 := Lib.hid (show 20 ∣ b ∧ l'.length = n ∧ SB ltC l' 20 0 b ∧ Stb ltC l l' ∧ OwnX eC w1 base (.slice (some ⟨g, 0, none⟩) n c) l' ∧ w.grownBy w1 (some g) by
        obtain ⟨s1, s2, s3, s4, s5, s6⟩ := ST.out
        have := HB.out
        refine ⟨by rw [← this]; exact Nat.dvd_add s1 (Nat.dvd_refl _), h1, ?_, s4.trans h4, by rw [s2] at h5; exact h5, s6.trans h6⟩
        rw [← this]
        exact s3.more s1 (fun k hk => h2 k (.inl hk)) h3 (.inl (by omega)))
      clear h1 h2 h3 h4 h5 h6 C
      go_wp2_with fail
      go_roundw
      case rel => exact ⟨b, b + 20, l', rfl, by first | rfl | go_num, by omega, by omega, Lib.hid rfl, ST2⟩
      case measure => simp only [intOf, Int.toNat_natCast]; have := HB.out; omega
    · have hz : ¬ (b : Int) ≤ (n : Int) := by omega
      have C := Lib.hid (INS.out a n cur wr ST.out.2.1 ST.out.2.2.2.2.1 han (Nat.le_refl _))
      go_wp2_with fail
      refine C.out.mono ?_
      rintro e w1 ⟨rfl, l', ⟨h1, h2, h3, h4⟩, h5, h6⟩
      have ST2 := Lib.hid (show l'.length = n ∧ SB ltC l' 20 0 n ∧ Stb ltC l l' ∧ OwnX eC w1 base (.slice (some ⟨g, 0, none⟩) n c) l' ∧ w.grownBy w1 (some g) by
        obtain ⟨s1, s2, s3, s4, s5, s6⟩ := ST.out
        refine ⟨h1, ?_, s4.trans h4, by rw [s2] at h5; exact h5, s6.trans h6⟩
        exact (s3.more s1 (fun k hk => h2 k (.inl hk)) h3 (.inr (by rw [h1]; exact Nat.le_refl _))).shrink (by have := HB.out; omega))
      clear h1 h2 h3 h4 h5 h6 C hz
      go_wp2_with fail
      go_loopw [6, 7, 8, 9] (fun v6 _ _ _ wr => ∃ (bs : Nat) (cur : List Cel), v6 = .int .i64 (bs : Int) ∧ 0 < bs ∧ bs ≤ 2 * n + 20 ∧ Hid (cur.length = n ∧ SB ltC cur bs 0 n ∧ Stb ltC l cur ∧ OwnX eC wr base (.slice (some ⟨g, 0, none⟩) n c) cur ∧ w.grownBy wr (some g))) (fun v6 _ _ _ _ => n - (intOf v6).toNat)
      case atStart => exact ⟨20, l', rfl, by omega, by omega, ST2⟩
      case round =>
        obtain ⟨bs, cur2, rfl, hbs, hbs2, ST3⟩ := hrel
        obtain ⟨d, hd⟩ : ∃ d, 2 * bs = d := ⟨_, rfl⟩
        have HD := Lib.hid hd
        have ed : (2 : Int) * (bs : Int) = (d : Int) := by omega
        have ed2 : (bs : Int) * 2 = (d : Int) := by omega
        have bd : d ≤ 4 * n + 40 := by omega
        clear hd
        by_cases hlt2 : bs < n
        · have hz : (bs : Int) < (n : Int) := by omega
          go_wp2_with fail
          clear hz
          go_loopw [7, 8] (fun va vb wr => ∃ (a b : Nat) (cur : List Cel), va = .int .i64 (a : Int) ∧ vb = .int .i64 (b : Int) ∧ a ≤ n ∧ b ≤ n + d ∧ Hid (a + d = b) ∧ Hid (2 * bs ∣ a ∧ cur.length = n ∧ SB ltC cur (2 * bs) 0 a ∧ SB ltC cur bs a n ∧ Stb ltC l cur ∧ OwnX eC wr base (.slice (some ⟨g, 0, none⟩) n c) cur ∧ w.grownBy wr (some g))) (fun va _ _ => n - (intOf va).toNat)
          case atStart => exact ⟨0, d, cur2, rfl, rfl, by omega, by omega, Lib.hid (Nat.zero_add _), Lib.hid ⟨Nat.dvd_zero _, ST3.out.1, SB.none _ _ _, ST3.out.2.1, ST3.out.2.2⟩⟩
          case round =>
            obtain ⟨a, b, cur, rfl, rfl, han, hbn, HB, ST⟩ := hrel
            have ham := Lib.hid (SB.two ST.out.1)
            obtain ⟨m, hm⟩ : ∃ m, a + bs = m := ⟨_, rfl⟩
            have em : (a : Int) + (bs : Int) = (m : Int) := by omega
            have HM := Lib.hid hm
            have mb : m + bs = b := by have := HD.out; have := HB.out; omega
            have am : a < m := by omega
            have mltb : m < b := by omega
            have MB := Lib.hid mb
            clear hm mb
            by_cases hlt : b ≤ n
            · have hz : (b : Int) ≤ (n : Int) := by omega
              have sA : SrtOn ltC cur a m := by rw [← HM.out]; exact ST.out.2.2.2.1 a ham.out.1 (Nat.le_refl _) (by omega)
              have sB : SrtOn ltC cur m b := by rw [← MB.out]; exact ST.out.2.2.2.1 m (by rw [← HM.out]; exact ham.out.2) (by omega) (by omega)
              have C := Lib.hid (SYM.out a m b cur wr ST.out.2.1 ST.out.2.2.2.2.2.1 am mltb hlt sA sB)
              clear sA sB
              go_wp2_with fail
              refine C.out.mono ?_
              rintro e w2 ⟨rfl, l2, h1, h2, h3⟩
              have ST4 := Lib.hid (show 2 * bs ∣ b ∧ l2.length = n ∧ SB ltC l2 (2 * bs) 0 b ∧ SB ltC l2 bs b n ∧ Stb ltC l l2 ∧ OwnX eC w2 base (.slice (some ⟨g, 0, none⟩) n c) l2 ∧ w.grownBy w2 (some g) by
                obtain ⟨s1, s2, s3, s4, s5, s6, s7⟩ := ST.out
                have hb := HB.out; have hd := HD.out
                have e : a + 2 * bs = b := by omega
                refine ⟨by rw [← e]; exact Nat.dvd_add s1 (Nat.dvd_refl _), h1.len.trans s2, ?_, s4.rest (by omega) (fun k hk => h1.out k (.inr hk)), s5.trans h1.stb, by rw [s2] at h2; exact h2, s7.trans h3⟩
                rw [← e]
                exact s3.more s1 (fun k hk => h1.out k (.inl hk)) h1.srt (.inl (by omega)))
              clear h1 h2 h3 C
              go_wp2_with fail
              go_roundw
              case rel => exact ⟨b, b + d, l2, rfl, by first | rfl | go_num, by omega, by omega, Lib.hid rfl, ST4⟩
              case measure => simp only [intOf, Int.toNat_natCast]; omega
            · have hz : ¬ (b : Int) ≤ (n : Int) := by omega
              by_cases hmn : m < n
              · have hz2 : (m : Int) < (n : Int) := by omega
                have sA : SrtOn ltC cur a m := by rw [← HM.out]; exact ST.out.2.2.2.1 a ham.out.1 (Nat.le_refl _) (by omega)
                have sB : SrtOn ltC cur m n := (ST.out.2.2.2.1 m (by rw [← HM.out]; exact ham.out.2) (by omega) hmn).sub (Nat.le_refl _) (by have := MB.out; omega)
                have C := Lib.hid (SYM.out a m n cur wr ST.out.2.1 ST.out.2.2.2.2.2.1 am hmn (Nat.le_refl _) sA sB)
                clear sA sB
                go_wp2_with fail
                refine C.out.mono ?_
                rintro e w2 ⟨rfl, l2, h1, h2, h3⟩
                have ST4 := Lib.hid (show l2.length = n ∧ SB ltC l2 d 0 n ∧ Stb ltC l l2 ∧ OwnX eC w2 base (.slice (some ⟨g, 0, none⟩) n c) l2 ∧ w.grownBy w2 (some g) by
                  obtain ⟨s1, s2, s3, s4, s5, s6, s7⟩ := ST.out
                  refine ⟨h1.len.trans s2, ?_, s5.trans h1.stb, by rw [s2] at h2; exact h2, s7.trans h3⟩
                  rw [← HD.out]
                  exact (s3.more s1 (fun k hk => h1.out k (.inl hk)) h1.srt (.inr (by rw [h1.len, s2]; exact Nat.le_refl _))).shrink (by have := HB.out; have := HD.out; omega))
                clear h1 h2 h3 C
                go_wp2_with fail
                go_roundw
                case rel => exact ⟨d, l2, rfl, by have := HD.out; omega, by have := HD.out; omega, ST4⟩
                case measure => simp only [intOf, Int.toNat_natCast]; have := HD.out; omega
              · have hz2 : ¬ (m : Int) < (n : Int) := by omega
                have ST4 := Lib.hid (show cur.length = n ∧ SB ltC cur d 0 n ∧ Stb ltC l cur ∧ OwnX eC wr base (.slice (some ⟨g, 0, none⟩) n c) cur ∧ w.grownBy wr (some g) by
                  obtain ⟨s1, s2, s3, s4, s5, s6, s7⟩ := ST.out
                  refine ⟨s2, ?_, s5, s6, s7⟩
                  rw [← HD.out]
                  rcases Nat.lt_or_ge a n with h | h
                  · exact (s3.more s1 (fun k hk => rfl) ((s4 a ham.out.1 (Nat.le_refl _) h).sub (Nat.le_refl _) (show n ≤ a + bs by have := HM.out; omega)) (.inr (by rw [s2]; exact Nat.le_refl _))).shrink (by have := HB.out; have := HD.out; omega)
                  · exact s3.shrink h)
                go_wp2_with fail
                go_roundw
                case rel => exact ⟨d, cur, rfl, by have := HD.out; omega, by have := HD.out; omega, ST4⟩
                case measure => simp only [intOf, Int.toNat_natCast]; have := HD.out; omega
        · have hz : ¬ (bs : Int) < (n : Int) := by omega
          have FIN := Lib.hid (show Srt ltC cur2 from by
            have := ST3.out.2.1
            rw [← ST3.out.1] at this
            exact this.all (by rw [ST3.out.1]; omega))
          go_wp2_with fail
          refine bodyPost_end (v := .tuple #[]) (by simp [results, Tryz.results109, go_sem]) rfl ⟨rfl, cur2, ⟨FIN.out, ST3.out.2.2.1⟩, by rw [HN.out]; exact ST3.out.2.2.2.1, ST3.out.2.2.2.2⟩
theorem sortC_any (g c base : Nat) (l : List Cel) (w : World) (HO : OwnX eC w base (.slice (some ⟨g, 0, none⟩) l.length c) l) (hl : l.length < 1000000000000000) :
    Calls Tryz.prog 66 #[.slice (some ⟨g, 0, none⟩) l.length c, .func (.func 67) #[] #[]] w (SwapPost eC w base g c l fun l' => Srt ltC l' ∧ Stb ltC l l') := by
  have C := Lib.hid (stableC_any g c base l w HO hl)
  clear HO
  go_enter Tryz.func66, Tryz.ntmps66
  go_wp2_with fail
  refine C.out.mono ?_
  rintro e w1 ⟨rfl, h⟩
  have H := Lib.hid h
  clear h
  go_wp2_with fail
  exact bodyPost_end (v := .tuple #[]) (by simp [results, Tryz.results66, go_sem]) rfl ⟨rfl, H.out⟩
end Go.Proofs.YtplghaoflmaadaaGreatDoor
end

section
set_option linter.unusedVariables false
set_option linter.unusedSimpArgs false
set_option maxRecDepth 50000
namespace Go.Proofs.YtplghaoflmaadaaGreatDoor
open Go.RowKit Go.Sort

theorem Ten.under {w w1 : World} {g : Nat} {c : Cel} (h : Ten w g 0 c) (hb : Below w.heap.size w w1) : Ten w1 g 0 c := h.keep hb
end Go.Proofs.YtplghaoflmaadaaGreatDoor
end
