import Derived.Test.YthccmffgjchdmaaGreatDoorNEng
import Derived.Test.YthccmffgjchdmaaGreatDoorProg
import Derived.KernelRfl
open Go Go.Proofs Go.Proofs.YthccmffgjchdmaaGreatDoor
namespace ZN
open Go.Eng
def tabL : List (TypeId × TI) := [
(1,⟨false,1,8,[.nilFunc],.cell⟩),
(2,⟨false,1,8,[(.int .i64 0)],(.int .i64)⟩),
(3,⟨false,1,8,[(.int .i64 0)],(.int .i64)⟩),
(4,⟨false,1,1,[(.bool false)],.bool⟩),
(5,⟨false,1,1,[(.int .u8 0)],(.int .u8)⟩),
(6,⟨false,1,1,[(.int .u8 0)],(.int .u8)⟩),
(7,⟨true,4,24,[(.int .i64 0),(.int .i64 0),(.bool false),(.int .u8 0)],(.struct [(0,1),(1,1),(2,1),(3,1)])⟩),
(8,⟨true,4,24,[(.int .i64 0),(.int .i64 0),(.bool false),(.int .u8 0)],(.struct [(0,1),(1,1),(2,1),(3,1)])⟩),
(9,⟨false,1,16,[(.string ⟨#[]⟩)],.str⟩),
(10,⟨false,1,16,[(.string ⟨#[]⟩)],.str⟩),
(11,⟨false,1,16,[(.string ⟨#[]⟩)],.str⟩),
(12,⟨false,1,8,[(.int .u64 0)],(.int .u64)⟩),
(13,⟨true,2,24,[(.string ⟨#[]⟩),(.int .u64 0)],(.struct [(0,1),(1,1)])⟩),
(14,⟨true,2,24,[(.string ⟨#[]⟩),(.int .u64 0)],(.struct [(0,1),(1,1)])⟩),
(15,⟨false,1,8,[(.pointer none)],.cell⟩),
(16,⟨false,1,8,[(.pointer none)],.cell⟩),
(17,⟨false,1,8,[(.pointer none)],.cell⟩),
(18,⟨true,1,8,[(.pointer none)],(.struct [(0,1)])⟩),
(19,⟨true,1,8,[(.pointer none)],(.struct [(0,1)])⟩),
(20,⟨false,1,16,[.nilIface],.iface⟩),
(21,⟨false,1,4,[(.int .i32 0)],(.int .i32)⟩),
(22,⟨false,1,24,[(.slice none 0 0)],(.slice 24)⟩),
(23,⟨true,4,32,[(.int .i64 0),(.int .i64 0),(.int .i64 0),(.int .i64 0)],(.struct [(0,1),(1,1),(2,1),(3,1)])⟩),
(24,⟨true,4,32,[(.int .i64 0),(.int .i64 0),(.int .i64 0),(.int .i64 0)],(.struct [(0,1),(1,1),(2,1),(3,1)])⟩),
(25,⟨false,1,24,[(.slice none 0 0)],(.slice 37)⟩),
(26,⟨false,1,24,[(.slice none 0 0)],(.slice 87)⟩),
(27,⟨true,1,24,[(.slice none 0 0)],(.struct [(0,1)])⟩),
(28,⟨true,1,24,[(.slice none 0 0)],(.struct [(0,1)])⟩),
(29,⟨false,1,24,[(.slice none 0 0)],(.slice 104)⟩),
(30,⟨false,1,24,[(.slice none 0 0)],(.slice 3)⟩),
(32,⟨false,1,8,[.nilFunc],.cell⟩),
(33,⟨false,1,24,[(.slice none 0 0)],(.slice 9)⟩),
(34,⟨false,1,24,[(.slice none 0 0)],(.slice 67)⟩),
(35,⟨false,1,24,[(.slice none 0 0)],(.slice 71)⟩),
(36,⟨true,4,88,[(.string ⟨#[]⟩),(.slice none 0 0),(.slice none 0 0),(.slice none 0 0)],(.struct [(0,1),(1,1),(2,1),(3,1)])⟩),
(37,⟨true,4,88,[(.string ⟨#[]⟩),(.slice none 0 0),(.slice none 0 0),(.slice none 0 0)],(.struct [(0,1),(1,1),(2,1),(3,1)])⟩),
(38,⟨false,1,8,[(.int .i64 0)],(.int .i64)⟩),
(40,⟨false,1,8,[.nilFunc],.cell⟩),
(42,⟨false,1,8,[.nilFunc],.cell⟩),
(44,⟨false,1,8,[.nilFunc],.cell⟩),
(45,⟨false,1,8,[.nilFunc],.cell⟩),
(46,⟨false,1,24,[(.slice none 0 0)],(.slice 199)⟩),
(47,⟨true,5,88,[(.int .i64 0),(.int .i64 0),(.slice none 0 0),(.slice none 0 0),(.slice none 0 0)],(.struct [(0,1),(1,1),(2,1),(3,1),(4,1)])⟩),
(48,⟨true,5,88,[(.int .i64 0),(.int .i64 0),(.slice none 0 0),(.slice none 0 0),(.slice none 0 0)],(.struct [(0,1),(1,1),(2,1),(3,1),(4,1)])⟩),
(50,⟨false,1,8,[.nilFunc],.cell⟩),
(51,⟨false,1,8,[.nilFunc],.cell⟩),
(52,⟨false,1,8,[.nilFunc],.cell⟩),
(53,⟨false,1,8,[.nilFunc],.cell⟩),
(54,⟨false,1,8,[.nilFunc],.cell⟩),
(56,⟨false,1,8,[.nilFunc],.cell⟩),
(57,⟨false,1,8,[.nilFunc],.cell⟩),
(58,⟨false,1,8,[(.pointer none)],.cell⟩),
(59,⟨false,1,24,[(.slice none 0 0)],(.slice 5)⟩),
(60,⟨true,2,32,[(.pointer none),(.slice none 0 0)],(.struct [(0,1),(1,1)])⟩),
(61,⟨true,2,32,[(.pointer none),(.slice none 0 0)],(.struct [(0,1),(1,1)])⟩),
(62,⟨false,1,16,[.nilIface],.iface⟩),
(63,⟨false,1,16,[.nilIface],.iface⟩),
(65,⟨false,1,8,[.nilFunc],.cell⟩),
(66,⟨true,2,24,[(.string ⟨#[]⟩),(.int .i64 0)],(.struct [(0,1),(1,1)])⟩),
(67,⟨true,2,24,[(.string ⟨#[]⟩),(.int .i64 0)],(.struct [(0,1),(1,1)])⟩),
(68,⟨false,1,8,[.nilFunc],.cell⟩),
(69,⟨false,1,24,[(.slice none 0 0)],(.slice 114)⟩),
(70,⟨true,4,72,[(.string ⟨#[]⟩),(.bool false),(.slice none 0 0),(.slice none 0 0)],(.struct [(0,1),(1,1),(2,1),(3,1)])⟩),
(71,⟨true,4,72,[(.string ⟨#[]⟩),(.bool false),(.slice none 0 0),(.slice none 0 0)],(.struct [(0,1),(1,1),(2,1),(3,1)])⟩),
(72,⟨false,1,8,[.nilFunc],.cell⟩),
(73,⟨false,1,8,[.nilFunc],.cell⟩),
(74,⟨false,1,8,[.nilFunc],.cell⟩),
(75,⟨false,1,24,[(.slice none 0 0)],(.slice 119)⟩),
(77,⟨false,1,8,[.nilFunc],.cell⟩),
(78,⟨false,1,8,[.nilFunc],.cell⟩),
(80,⟨false,1,8,[.nilFunc],.cell⟩),
(81,⟨false,1,24,[(.slice none 0 0)],(.slice 135)⟩),
(83,⟨false,1,8,[.nilFunc],.cell⟩),
(84,⟨false,1,8,[.nilFunc],.cell⟩),
(85,⟨false,1,24,[(.slice none 0 0)],(.slice 89)⟩),
(86,⟨true,4,64,[(.slice none 0 0),(.slice none 0 0),(.int .i64 0),(.int .i64 0)],(.struct [(0,1),(1,1),(2,1),(3,1)])⟩),
(87,⟨true,4,64,[(.slice none 0 0),(.slice none 0 0),(.int .i64 0),(.int .i64 0)],(.struct [(0,1),(1,1),(2,1),(3,1)])⟩),
(88,⟨true,2,16,[(.int .i64 0),(.int .i64 0)],(.struct [(0,1),(1,1)])⟩),
(89,⟨true,2,16,[(.int .i64 0),(.int .i64 0)],(.struct [(0,1),(1,1)])⟩),
(90,⟨false,1,8,[.nilFunc],.cell⟩),
(91,⟨false,1,8,[.nilFunc],.cell⟩),
(92,⟨false,1,8,[.nilFunc],.cell⟩),
(93,⟨false,1,8,[(.pointer none)],.cell⟩),
(94,⟨false,1,8,[.nilFunc],.cell⟩),
(95,⟨false,1,24,[(.slice none 0 0)],(.slice 141)⟩),
(96,⟨true,7,136,[(.slice none 0 0),(.int .i64 0),(.int .i64 0),(.slice none 0 0),(.slice none 0 0),(.slice none 0 0),(.slice none 0 0)],(.struct [(0,1),(1,5),(6,1)])⟩),
(97,⟨true,7,136,[(.slice none 0 0),(.int .i64 0),(.int .i64 0),(.slice none 0 0),(.slice none 0 0),(.slice none 0 0),(.slice none 0 0)],(.struct [(0,1),(1,5),(6,1)])⟩),
(98,⟨false,1,8,[.nilFunc],.cell⟩),
(99,⟨false,1,8,[.nilFunc],.cell⟩),
(100,⟨true,3,48,[(.string ⟨#[]⟩),(.string ⟨#[]⟩),(.string ⟨#[]⟩)],(.array 3 9)⟩),
(101,⟨false,1,8,[.nilFunc],.cell⟩),
(102,⟨false,1,24,[(.slice none 0 0)],(.slice 30)⟩),
(103,⟨true,2,48,[(.slice none 0 0),(.slice none 0 0)],(.struct [(0,1),(1,1)])⟩),
(104,⟨true,2,48,[(.slice none 0 0),(.slice none 0 0)],(.struct [(0,1),(1,1)])⟩),
(105,⟨false,1,8,[.nilFunc],.cell⟩),
(106,⟨false,1,8,[.nilFunc],.cell⟩),
(107,⟨false,1,8,[(.pointer none)],.cell⟩),
(108,⟨false,1,8,[.nilFunc],.cell⟩),
(109,⟨false,1,8,[.nilFunc],.cell⟩),
(110,⟨false,1,8,[.nilFunc],.cell⟩),
(111,⟨false,1,8,[.nilFunc],.cell⟩),
(112,⟨false,1,24,[(.slice none 0 0)],(.slice 146)⟩),
(113,⟨true,5,96,[(.int .i64 0),(.string ⟨#[]⟩),(.slice none 0 0),(.slice none 0 0),(.slice none 0 0)],(.struct [(0,1),(1,1),(2,1),(3,1),(4,1)])⟩),
(114,⟨true,5,96,[(.int .i64 0),(.string ⟨#[]⟩),(.slice none 0 0),(.slice none 0 0),(.slice none 0 0)],(.struct [(0,1),(1,1),(2,1),(3,1),(4,1)])⟩),
(115,⟨false,1,8,[.nilFunc],.cell⟩),
(116,⟨false,1,8,[(.pointer none)],.cell⟩),
(117,⟨false,1,8,[.nilFunc],.cell⟩),
(118,⟨true,2,24,[(.int .i64 0),(.string ⟨#[]⟩)],(.struct [(0,1),(1,1)])⟩),
(119,⟨true,2,24,[(.int .i64 0),(.string ⟨#[]⟩)],(.struct [(0,1),(1,1)])⟩),
(121,⟨false,1,8,[.nilFunc],.cell⟩),
(122,⟨false,1,8,[.nilFunc],.cell⟩),
(123,⟨false,1,8,[(.pointer none)],.cell⟩),
(124,⟨true,2,32,[(.slice none 0 0),(.int .i64 0)],(.struct [(0,1),(1,1)])⟩),
(125,⟨true,2,32,[(.slice none 0 0),(.int .i64 0)],(.struct [(0,1),(1,1)])⟩),
(126,⟨false,1,8,[.nilFunc],.cell⟩),
(127,⟨false,1,8,[.nilFunc],.cell⟩),
(128,⟨false,1,8,[.nilFunc],.cell⟩),
(129,⟨false,1,8,[(.pointer none)],.cell⟩),
(130,⟨true,11,176,[(.slice none 0 0),(.int .i64 0),(.int .i64 0),(.string ⟨#[]⟩),(.bool false),(.slice none 0 0),(.slice none 0 0),(.slice none 0 0),(.slice none 0 0),(.int .i64 0),(.int .i64 0)],(.struct [(0,1),(1,1),(2,1),(3,4),(7,1),(8,1),(9,1),(10,1)])⟩),
(131,⟨true,11,176,[(.slice none 0 0),(.int .i64 0),(.int .i64 0),(.string ⟨#[]⟩),(.bool false),(.slice none 0 0),(.slice none 0 0),(.slice none 0 0),(.slice none 0 0),(.int .i64 0),(.int .i64 0)],(.struct [(0,1),(1,1),(2,1),(3,4),(7,1),(8,1),(9,1),(10,1)])⟩),
(132,⟨false,1,8,[.nilFunc],.cell⟩),
(133,⟨false,1,8,[.nilFunc],.cell⟩),
(134,⟨true,4,32,[(.int .i64 0),(.int .i64 0),(.int .i64 0),(.int .i64 0)],(.struct [(0,1),(1,1),(2,1),(3,1)])⟩),
(135,⟨true,4,32,[(.int .i64 0),(.int .i64 0),(.int .i64 0),(.int .i64 0)],(.struct [(0,1),(1,1),(2,1),(3,1)])⟩),
(136,⟨false,1,8,[.nilFunc],.cell⟩),
(137,⟨false,1,8,[.nilFunc],.cell⟩),
(138,⟨false,1,8,[.nilFunc],.cell⟩),
(139,⟨true,8,64,[(.int .i64 0),(.int .i64 0),(.int .i64 0),(.int .i64 0),(.int .i64 0),(.int .i64 0),(.int .i64 0),(.int .i64 0)],(.array 8 3)⟩),
(140,⟨true,12,112,[(.int .i64 0),(.int .i64 0),(.int .i64 0),(.int .i64 0),(.int .i64 0),(.int .i64 0),(.int .i64 0),(.int .i64 0),(.int .i64 0),(.int .i64 0),(.slice none 0 0),(.int .i64 0)],(.struct [(0,1),(1,1),(2,8),(10,1),(11,1)])⟩),
(141,⟨true,12,112,[(.int .i64 0),(.int .i64 0),(.int .i64 0),(.int .i64 0),(.int .i64 0),(.int .i64 0),(.int .i64 0),(.int .i64 0),(.int .i64 0),(.int .i64 0),(.slice none 0 0),(.int .i64 0)],(.struct [(0,1),(1,1),(2,8),(10,1),(11,1)])⟩),
(142,⟨false,1,8,[(.pointer none)],.cell⟩),
(143,⟨false,1,8,[.nilFunc],.cell⟩),
(144,⟨false,1,8,[.nilFunc],.cell⟩),
(145,⟨true,5,72,[(.int .i64 0),(.int .i64 0),(.string ⟨#[]⟩),(.string ⟨#[]⟩),(.slice none 0 0)],(.struct [(0,1),(1,1),(2,1),(3,1),(4,1)])⟩),
(146,⟨true,5,72,[(.int .i64 0),(.int .i64 0),(.string ⟨#[]⟩),(.string ⟨#[]⟩),(.slice none 0 0)],(.struct [(0,1),(1,1),(2,1),(3,1),(4,1)])⟩),
(147,⟨false,1,8,[.nilFunc],.cell⟩),
(148,⟨false,1,8,[.nilFunc],.cell⟩),
(149,⟨false,1,8,[.nilFunc],.cell⟩),
(150,⟨true,1,8,[(.int .i64 0)],(.struct [(0,1)])⟩),
(151,⟨true,1,8,[(.int .i64 0)],(.struct [(0,1)])⟩),
(153,⟨false,1,8,[.nilFunc],.cell⟩),
(154,⟨false,1,8,[.nilFunc],.cell⟩),
(156,⟨false,1,8,[.nilFunc],.cell⟩),
(157,⟨false,1,8,[.nilFunc],.cell⟩),
(158,⟨false,1,8,[.nilFunc],.cell⟩),
(159,⟨false,1,8,[.nilFunc],.cell⟩),
(160,⟨false,1,8,[.nilFunc],.cell⟩),
(161,⟨false,1,8,[.nilFunc],.cell⟩),
(162,⟨false,1,8,[.nilFunc],.cell⟩),
(163,⟨false,1,8,[.nilFunc],.cell⟩),
(164,⟨false,1,8,[.nilFunc],.cell⟩),
(165,⟨false,1,8,[.nilFunc],.cell⟩),
(166,⟨false,1,8,[.nilFunc],.cell⟩),
(167,⟨false,1,8,[.nilFunc],.cell⟩),
(168,⟨false,1,8,[.nilFunc],.cell⟩),
(169,⟨false,1,8,[.nilFunc],.cell⟩),
(170,⟨false,1,8,[.nilFunc],.cell⟩),
(171,⟨false,1,8,[.nilFunc],.cell⟩),
(173,⟨false,1,8,[.nilFunc],.cell⟩),
(175,⟨false,1,8,[.nilFunc],.cell⟩),
(176,⟨false,1,8,[.nilFunc],.cell⟩),
(177,⟨true,24,24,[(.int .u8 0),(.int .u8 0),(.int .u8 0),(.int .u8 0),(.int .u8 0),(.int .u8 0),(.int .u8 0),(.int .u8 0),(.int .u8 0),(.int .u8 0),(.int .u8 0),(.int .u8 0),(.int .u8 0),(.int .u8 0),(.int .u8 0),(.int .u8 0),(.int .u8 0),(.int .u8 0),(.int .u8 0),(.int .u8 0),(.int .u8 0),(.int .u8 0),(.int .u8 0),(.int .u8 0)],(.array 24 5)⟩),
(178,⟨false,1,8,[(.int .u64 0)],(.int .u64)⟩),
(179,⟨false,1,8,[.nilFunc],.cell⟩),
(180,⟨false,1,8,[.nilFunc],.cell⟩),
(182,⟨false,1,8,[.nilFunc],.cell⟩),
(183,⟨false,1,8,[.nilFunc],.cell⟩),
(184,⟨true,11,176,[(.string ⟨#[]⟩),(.string ⟨#[]⟩),(.string ⟨#[]⟩),(.string ⟨#[]⟩),(.string ⟨#[]⟩),(.string ⟨#[]⟩),(.string ⟨#[]⟩),(.string ⟨#[]⟩),(.string ⟨#[]⟩),(.string ⟨#[]⟩),(.string ⟨#[]⟩)],(.array 11 9)⟩),
(185,⟨false,1,8,[.nilFunc],.cell⟩),
(186,⟨false,1,8,[.nilFunc],.cell⟩),
(187,⟨false,1,8,[.nilFunc],.cell⟩),
(188,⟨false,1,8,[.nilFunc],.cell⟩),
(189,⟨false,1,8,[.nilFunc],.cell⟩),
(190,⟨false,1,8,[.nilFunc],.cell⟩),
(191,⟨false,1,8,[(.pointer none)],.cell⟩),
(192,⟨true,9,184,[(.slice none 0 0),(.string ⟨#[]⟩),(.slice none 0 0),(.slice none 0 0),(.slice none 0 0),(.string ⟨#[]⟩),(.bool false),(.slice none 0 0),(.slice none 0 0)],(.struct [(0,1),(1,4),(5,4)])⟩),
(193,⟨true,9,184,[(.slice none 0 0),(.string ⟨#[]⟩),(.slice none 0 0),(.slice none 0 0),(.slice none 0 0),(.string ⟨#[]⟩),(.bool false),(.slice none 0 0),(.slice none 0 0)],(.struct [(0,1),(1,4),(5,4)])⟩),
(194,⟨false,1,8,[.nilFunc],.cell⟩),
(196,⟨false,1,8,[.nilFunc],.cell⟩),
(197,⟨false,1,8,[.nilFunc],.cell⟩),
(198,⟨true,7,72,[(.int .i64 0),(.int .i64 0),(.int .i64 0),(.slice none 0 0),(.int .i64 0),(.bool false),(.int .i64 0)],(.struct [(0,1),(1,1),(2,1),(3,1),(4,1),(5,1),(6,1)])⟩),
(199,⟨true,7,72,[(.int .i64 0),(.int .i64 0),(.int .i64 0),(.slice none 0 0),(.int .i64 0),(.bool false),(.int .i64 0)],(.struct [(0,1),(1,1),(2,1),(3,1),(4,1),(5,1),(6,1)])⟩),
(200,⟨false,1,8,[.nilFunc],.cell⟩),
(201,⟨false,1,8,[.nilFunc],.cell⟩),
(202,⟨true,20,160,[(.int .u64 0),(.int .u64 0),(.int .u64 0),(.int .u64 0),(.int .u64 0),(.int .u64 0),(.int .u64 0),(.int .u64 0),(.int .u64 0),(.int .u64 0),(.int .u64 0),(.int .u64 0),(.int .u64 0),(.int .u64 0),(.int .u64 0),(.int .u64 0),(.int .u64 0),(.int .u64 0),(.int .u64 0),(.int .u64 0)],(.array 20 178)⟩),
(203,⟨false,1,4,[(.int .u32 0)],(.int .u32)⟩),
(204,⟨true,65,65,[(.int .u8 0),(.int .u8 0),(.int .u8 0),(.int .u8 0),(.int .u8 0),(.int .u8 0),(.int .u8 0),(.int .u8 0),(.int .u8 0),(.int .u8 0),(.int .u8 0),(.int .u8 0),(.int .u8 0),(.int .u8 0),(.int .u8 0),(.int .u8 0),(.int .u8 0),(.int .u8 0),(.int .u8 0),(.int .u8 0),(.int .u8 0),(.int .u8 0),(.int .u8 0),(.int .u8 0),(.int .u8 0),(.int .u8 0),(.int .u8 0),(.int .u8 0),(.int .u8 0),(.int .u8 0),(.int .u8 0),(.int .u8 0),(.int .u8 0),(.int .u8 0),(.int .u8 0),(.int .u8 0),(.int .u8 0),(.int .u8 0),(.int .u8 0),(.int .u8 0),(.int .u8 0),(.int .u8 0),(.int .u8 0),(.int .u8 0),(.int .u8 0),(.int .u8 0),(.int .u8 0),(.int .u8 0),(.int .u8 0),(.int .u8 0),(.int .u8 0),(.int .u8 0),(.int .u8 0),(.int .u8 0),(.int .u8 0),(.int .u8 0),(.int .u8 0),(.int .u8 0),(.int .u8 0),(.int .u8 0),(.int .u8 0),(.int .u8 0),(.int .u8 0),(.int .u8 0),(.int .u8 0)],(.array 65 5)⟩),
(205,⟨false,1,8,[(.int .u64 0)],(.int .u64)⟩),
(206,⟨false,1,8,[.nilFunc],.cell⟩),
(207,⟨false,1,8,[(.int .i64 0)],(.int .i64)⟩),
(209,⟨false,1,8,[.nilFunc],.cell⟩),
(210,⟨false,1,8,[(.pointer none)],.cell⟩),
(211,⟨false,1,8,[.nilFunc],.cell⟩),
(212,⟨false,1,8,[.nilFunc],.cell⟩),
(214,⟨false,1,8,[.nilFunc],.cell⟩),
(215,⟨false,1,8,[.nilFunc],.cell⟩),
(216,⟨false,1,8,[.nilFunc],.cell⟩),
(217,⟨false,1,8,[.nilFunc],.cell⟩),
(218,⟨false,1,24,[(.slice none 0 0)],(.slice 69)⟩),
(219,⟨false,1,8,[.nilFunc],.cell⟩),
(220,⟨false,1,8,[.nilFunc],.cell⟩),
(221,⟨false,1,8,[.nilFunc],.cell⟩),
(222,⟨true,3,24,[(.int .i64 0),(.int .i64 0),(.int .i64 0)],(.struct [(0,1),(1,1),(2,1)])⟩),
(223,⟨true,3,24,[(.int .i64 0),(.int .i64 0),(.int .i64 0)],(.struct [(0,1),(1,1),(2,1)])⟩),
(224,⟨true,48,384,[(.int .i64 0),(.int .i64 0),(.int .i64 0),(.int .i64 0),(.int .i64 0),(.int .i64 0),(.int .i64 0),(.int .i64 0),(.int .i64 0),(.int .i64 0),(.int .i64 0),(.int .i64 0),(.int .i64 0),(.int .i64 0),(.int .i64 0),(.int .i64 0),(.int .i64 0),(.int .i64 0),(.int .i64 0),(.int .i64 0),(.int .i64 0),(.int .i64 0),(.int .i64 0),(.int .i64 0),(.int .i64 0),(.int .i64 0),(.int .i64 0),(.int .i64 0),(.int .i64 0),(.int .i64 0),(.int .i64 0),(.int .i64 0),(.int .i64 0),(.int .i64 0),(.int .i64 0),(.int .i64 0),(.int .i64 0),(.int .i64 0),(.int .i64 0),(.int .i64 0),(.int .i64 0),(.int .i64 0),(.int .i64 0),(.int .i64 0),(.int .i64 0),(.int .i64 0),(.int .i64 0),(.int .i64 0)],(.array 16 223)⟩),
(225,⟨false,1,8,[.nilFunc],.cell⟩),
(227,⟨false,1,8,[.nilFunc],.cell⟩),
(228,⟨true,3,48,[(.string ⟨#[]⟩),(.string ⟨#[]⟩),.nilIface],(.struct [(0,1),(1,1),(2,1)])⟩),
(229,⟨true,3,48,[(.string ⟨#[]⟩),(.string ⟨#[]⟩),.nilIface],(.struct [(0,1),(1,1),(2,1)])⟩),
(230,⟨false,1,8,[.nilFunc],.cell⟩),
(231,⟨false,1,8,[.nilFunc],.cell⟩),
(232,⟨false,1,8,[.nilFunc],.cell⟩),
(233,⟨false,1,8,[.nilFunc],.cell⟩),
(234,⟨false,1,8,[.nilFunc],.cell⟩),
(235,⟨false,1,8,[.nilFunc],.cell⟩),
(236,⟨false,1,8,[.nilFunc],.cell⟩),
(237,⟨false,1,8,[.nilFunc],.cell⟩),
(238,⟨false,1,8,[.nilFunc],.cell⟩),
(239,⟨true,32,32,[(.int .u8 0),(.int .u8 0),(.int .u8 0),(.int .u8 0),(.int .u8 0),(.int .u8 0),(.int .u8 0),(.int .u8 0),(.int .u8 0),(.int .u8 0),(.int .u8 0),(.int .u8 0),(.int .u8 0),(.int .u8 0),(.int .u8 0),(.int .u8 0),(.int .u8 0),(.int .u8 0),(.int .u8 0),(.int .u8 0),(.int .u8 0),(.int .u8 0),(.int .u8 0),(.int .u8 0),(.int .u8 0),(.int .u8 0),(.int .u8 0),(.int .u8 0),(.int .u8 0),(.int .u8 0),(.int .u8 0),(.int .u8 0)],(.array 32 5)⟩),
(240,⟨true,64,64,[(.int .u8 0),(.int .u8 0),(.int .u8 0),(.int .u8 0),(.int .u8 0),(.int .u8 0),(.int .u8 0),(.int .u8 0),(.int .u8 0),(.int .u8 0),(.int .u8 0),(.int .u8 0),(.int .u8 0),(.int .u8 0),(.int .u8 0),(.int .u8 0),(.int .u8 0),(.int .u8 0),(.int .u8 0),(.int .u8 0),(.int .u8 0),(.int .u8 0),(.int .u8 0),(.int .u8 0),(.int .u8 0),(.int .u8 0),(.int .u8 0),(.int .u8 0),(.int .u8 0),(.int .u8 0),(.int .u8 0),(.int .u8 0),(.int .u8 0),(.int .u8 0),(.int .u8 0),(.int .u8 0),(.int .u8 0),(.int .u8 0),(.int .u8 0),(.int .u8 0),(.int .u8 0),(.int .u8 0),(.int .u8 0),(.int .u8 0),(.int .u8 0),(.int .u8 0),(.int .u8 0),(.int .u8 0),(.int .u8 0),(.int .u8 0),(.int .u8 0),(.int .u8 0),(.int .u8 0),(.int .u8 0),(.int .u8 0),(.int .u8 0),(.int .u8 0),(.int .u8 0),(.int .u8 0),(.int .u8 0),(.int .u8 0),(.int .u8 0),(.int .u8 0),(.int .u8 0)],(.array 64 5)⟩),
(241,⟨false,1,8,[.nilFunc],.cell⟩),
(242,⟨false,1,8,[(.pointer none)],.cell⟩),
(243,⟨true,1,16,[(.string ⟨#[]⟩)],(.struct [(0,1)])⟩),
(244,⟨true,1,16,[(.string ⟨#[]⟩)],(.struct [(0,1)])⟩),
(245,⟨true,256,256,[(.int .u8 0),(.int .u8 0),(.int .u8 0),(.int .u8 0),(.int .u8 0),(.int .u8 0),(.int .u8 0),(.int .u8 0),(.int .u8 0),(.int .u8 0),(.int .u8 0),(.int .u8 0),(.int .u8 0),(.int .u8 0),(.int .u8 0),(.int .u8 0),(.int .u8 0),(.int .u8 0),(.int .u8 0),(.int .u8 0),(.int .u8 0),(.int .u8 0),(.int .u8 0),(.int .u8 0),(.int .u8 0),(.int .u8 0),(.int .u8 0),(.int .u8 0),(.int .u8 0),(.int .u8 0),(.int .u8 0),(.int .u8 0),(.int .u8 0),(.int .u8 0),(.int .u8 0),(.int .u8 0),(.int .u8 0),(.int .u8 0),(.int .u8 0),(.int .u8 0),(.int .u8 0),(.int .u8 0),(.int .u8 0),(.int .u8 0),(.int .u8 0),(.int .u8 0),(.int .u8 0),(.int .u8 0),(.int .u8 0),(.int .u8 0),(.int .u8 0),(.int .u8 0),(.int .u8 0),(.int .u8 0),(.int .u8 0),(.int .u8 0),(.int .u8 0),(.int .u8 0),(.int .u8 0),(.int .u8 0),(.int .u8 0),(.int .u8 0),(.int .u8 0),(.int .u8 0),(.int .u8 0),(.int .u8 0),(.int .u8 0),(.int .u8 0),(.int .u8 0),(.int .u8 0),(.int .u8 0),(.int .u8 0),(.int .u8 0),(.int .u8 0),(.int .u8 0),(.int .u8 0),(.int .u8 0),(.int .u8 0),(.int .u8 0),(.int .u8 0),(.int .u8 0),(.int .u8 0),(.int .u8 0),(.int .u8 0),(.int .u8 0),(.int .u8 0),(.int .u8 0),(.int .u8 0),(.int .u8 0),(.int .u8 0),(.int .u8 0),(.int .u8 0),(.int .u8 0),(.int .u8 0),(.int .u8 0),(.int .u8 0),(.int .u8 0),(.int .u8 0),(.int .u8 0),(.int .u8 0),(.int .u8 0),(.int .u8 0),(.int .u8 0),(.int .u8 0),(.int .u8 0),(.int .u8 0),(.int .u8 0),(.int .u8 0),(.int .u8 0),(.int .u8 0),(.int .u8 0),(.int .u8 0),(.int .u8 0),(.int .u8 0),(.int .u8 0),(.int .u8 0),(.int .u8 0),(.int .u8 0),(.int .u8 0),(.int .u8 0),(.int .u8 0),(.int .u8 0),(.int .u8 0),(.int .u8 0),(.int .u8 0),(.int .u8 0),(.int .u8 0),(.int .u8 0),(.int .u8 0),(.int .u8 0),(.int .u8 0),(.int .u8 0),(.int .u8 0),(.int .u8 0),(.int .u8 0),(.int .u8 0),(.int .u8 0),(.int .u8 0),(.int .u8 0),(.int .u8 0),(.int .u8 0),(.int .u8 0),(.int .u8 0),(.int .u8 0),(.int .u8 0),(.int .u8 0),(.int .u8 0),(.int .u8 0),(.int .u8 0),(.int .u8 0),(.int .u8 0),(.int .u8 0),(.int .u8 0),(.int .u8 0),(.int .u8 0),(.int .u8 0),(.int .u8 0),(.int .u8 0),(.int .u8 0),(.int .u8 0),(.int .u8 0),(.int .u8 0),(.int .u8 0),(.int .u8 0),(.int .u8 0),(.int .u8 0),(.int .u8 0),(.int .u8 0),(.int .u8 0),(.int .u8 0),(.int .u8 0),(.int .u8 0),(.int .u8 0),(.int .u8 0),(.int .u8 0),(.int .u8 0),(.int .u8 0),(.int .u8 0),(.int .u8 0),(.int .u8 0),(.int .u8 0),(.int .u8 0),(.int .u8 0),(.int .u8 0),(.int .u8 0),(.int .u8 0),(.int .u8 0),(.int .u8 0),(.int .u8 0),(.int .u8 0),(.int .u8 0),(.int .u8 0),(.int .u8 0),(.int .u8 0),(.int .u8 0),(.int .u8 0),(.int .u8 0),(.int .u8 0),(.int .u8 0),(.int .u8 0),(.int .u8 0),(.int .u8 0),(.int .u8 0),(.int .u8 0),(.int .u8 0),(.int .u8 0),(.int .u8 0),(.int .u8 0),(.int .u8 0),(.int .u8 0),(.int .u8 0),(.int .u8 0),(.int .u8 0),(.int .u8 0),(.int .u8 0),(.int .u8 0),(.int .u8 0),(.int .u8 0),(.int .u8 0),(.int .u8 0),(.int .u8 0),(.int .u8 0),(.int .u8 0),(.int .u8 0),(.int .u8 0),(.int .u8 0),(.int .u8 0),(.int .u8 0),(.int .u8 0),(.int .u8 0),(.int .u8 0),(.int .u8 0),(.int .u8 0),(.int .u8 0),(.int .u8 0),(.int .u8 0),(.int .u8 0),(.int .u8 0),(.int .u8 0),(.int .u8 0),(.int .u8 0),(.int .u8 0),(.int .u8 0),(.int .u8 0),(.int .u8 0),(.int .u8 0),(.int .u8 0),(.int .u8 0),(.int .u8 0),(.int .u8 0),(.int .u8 0),(.int .u8 0),(.int .u8 0),(.int .u8 0),(.int .u8 0),(.int .u8 0)],(.array 256 5)⟩),
(246,⟨true,2,2,[(.int .u8 0),(.int .u8 0)],(.struct [(0,1),(1,1)])⟩),
(247,⟨true,2,2,[(.int .u8 0),(.int .u8 0)],(.struct [(0,1),(1,1)])⟩),
(248,⟨true,32,32,[(.int .u8 0),(.int .u8 0),(.int .u8 0),(.int .u8 0),(.int .u8 0),(.int .u8 0),(.int .u8 0),(.int .u8 0),(.int .u8 0),(.int .u8 0),(.int .u8 0),(.int .u8 0),(.int .u8 0),(.int .u8 0),(.int .u8 0),(.int .u8 0),(.int .u8 0),(.int .u8 0),(.int .u8 0),(.int .u8 0),(.int .u8 0),(.int .u8 0),(.int .u8 0),(.int .u8 0),(.int .u8 0),(.int .u8 0),(.int .u8 0),(.int .u8 0),(.int .u8 0),(.int .u8 0),(.int .u8 0),(.int .u8 0)],(.array 16 247)⟩),
(249,⟨false,1,8,[.nilFunc],.cell⟩),
(250,⟨false,1,8,[.nilFunc],.cell⟩),
(251,⟨false,1,8,[.nilFunc],.cell⟩),
(253,⟨false,1,8,[.nilFunc],.cell⟩),
(254,⟨true,4,40,[(.pointer none),(.pointer none),(.pointer none),(.string ⟨#[]⟩)],(.struct [(0,1),(1,1),(2,1),(3,1)])⟩),
(255,⟨true,4,40,[(.pointer none),(.pointer none),(.pointer none),(.string ⟨#[]⟩)],(.struct [(0,1),(1,1),(2,1),(3,1)])⟩),
(259,⟨false,1,1,[(.int .u8 0)],(.int .u8)⟩),
(260,⟨false,1,1,[(.int .u8 0)],(.int .u8)⟩),
(261,⟨false,1,8,[.nilFunc],.cell⟩),
(262,⟨false,1,4,[(.int .i32 0)],(.int .i32)⟩),
(263,⟨false,1,4,[(.int .i32 0)],(.int .i32)⟩),
(264,⟨true,11,48,[(.int .u64 0),(.int .u64 0),(.int .u32 0),(.int .u8 0),(.int .u8 0),(.int .u8 0),(.int .u8 0),.nilFunc,(.pointer none),(.int .i32 0),(.int .i32 0)],(.struct [(0,1),(1,1),(2,1),(3,1),(4,1),(5,1),(6,1),(7,1),(8,1),(9,1),(10,1)])⟩),
(265,⟨true,11,48,[(.int .u64 0),(.int .u64 0),(.int .u32 0),(.int .u8 0),(.int .u8 0),(.int .u8 0),(.int .u8 0),.nilFunc,(.pointer none),(.int .i32 0),(.int .i32 0)],(.struct [(0,1),(1,1),(2,1),(3,1),(4,1),(5,1),(6,1),(7,1),(8,1),(9,1),(10,1)])⟩)]
theorem tabL_ok : tabCheck Tryz.prog tabL = true := by kernel_rfl
def T : Tab := lookT tabL
theorem hT : TabOk Tryz.prog T := tabCheck_ok tabL_ok
theorem fns_met0 : fnsCheck Tryz.prog 3 15 = true := by kernel_rfl
theorem fns_met1 : fnsCheck Tryz.prog 16 18 = true := by kernel_rfl
theorem fns_met2 : fnsCheck Tryz.prog 20 31 = true := by kernel_rfl
theorem fns_met3 : fnsCheck Tryz.prog 33 39 = true := by kernel_rfl
theorem fns_met4 : fnsCheck Tryz.prog 40 41 = true := by kernel_rfl
theorem fns_met5 : fnsCheck Tryz.prog 43 48 = true := by kernel_rfl
theorem fns_met6 : fnsCheck Tryz.prog 49 51 = true := by kernel_rfl
theorem fns_met7 : fnsCheck Tryz.prog 53 57 = true := by kernel_rfl
theorem fns_met8 : fnsCheck Tryz.prog 61 66 = true := by kernel_rfl
theorem fns_met9 : fnsCheck Tryz.prog 67 68 = true := by kernel_rfl
theorem fns_met10 : fnsCheck Tryz.prog 69 75 = true := by kernel_rfl
theorem fns_met11 : fnsCheck Tryz.prog 80 83 = true := by kernel_rfl
theorem fns_met12 : fnsCheck Tryz.prog 87 88 = true := by kernel_rfl
theorem fns_met13 : fnsCheck Tryz.prog 93 100 = true := by kernel_rfl
theorem fns_met14 : fnsCheck Tryz.prog 101 106 = true := by kernel_rfl
theorem fns_met15 : fnsCheck Tryz.prog 108 110 = true := by kernel_rfl
theorem fns_met16 : fnsCheck Tryz.prog 113 128 = true := by kernel_rfl
theorem fns_met17 : fnsCheck Tryz.prog 129 142 = true := by kernel_rfl
theorem fns_met18 : fnsCheck Tryz.prog 144 154 = true := by kernel_rfl
theorem fns_met19 : fnsCheck Tryz.prog 155 157 = true := by kernel_rfl
theorem fns_met20 : fnsCheck Tryz.prog 159 160 = true := by kernel_rfl
theorem fns_met21 : fnsCheck Tryz.prog 161 162 = true := by kernel_rfl
def F : FuncId → Bool := fun g => fnsIn 3 15 g || fnsIn 16 18 g || fnsIn 20 31 g || fnsIn 33 39 g || fnsIn 40 41 g || fnsIn 43 48 g || fnsIn 49 51 g || fnsIn 53 57 g || fnsIn 61 66 g || fnsIn 67 68 g || fnsIn 69 75 g || fnsIn 80 83 g || fnsIn 87 88 g || fnsIn 93 100 g || fnsIn 101 106 g || fnsIn 108 110 g || fnsIn 113 128 g || fnsIn 129 142 g || fnsIn 144 154 g || fnsIn 155 157 g || fnsIn 159 160 g || fnsIn 161 162 g
theorem hF : ∀ g, F g = true → fnOk Tryz.prog g = true := fun g h => by
  simp only [F, YaZ] at h
  rcases h with (((((((((((((((((((((h | h) | h) | h) | h) | h) | h) | h) | h) | h) | h) | h) | h) | h) | h) | h) | h) | h) | h) | h) | h) | h)
  · exact fns_ok fns_met0 g h
  · exact fns_ok fns_met1 g h
  · exact fns_ok fns_met2 g h
  · exact fns_ok fns_met3 g h
  · exact fns_ok fns_met4 g h
  · exact fns_ok fns_met5 g h
  · exact fns_ok fns_met6 g h
  · exact fns_ok fns_met7 g h
  · exact fns_ok fns_met8 g h
  · exact fns_ok fns_met9 g h
  · exact fns_ok fns_met10 g h
  · exact fns_ok fns_met11 g h
  · exact fns_ok fns_met12 g h
  · exact fns_ok fns_met13 g h
  · exact fns_ok fns_met14 g h
  · exact fns_ok fns_met15 g h
  · exact fns_ok fns_met16 g h
  · exact fns_ok fns_met17 g h
  · exact fns_ok fns_met18 g h
  · exact fns_ok fns_met19 g h
  · exact fns_ok fns_met20 g h
  · exact fns_ok fns_met21 g h
end ZN
